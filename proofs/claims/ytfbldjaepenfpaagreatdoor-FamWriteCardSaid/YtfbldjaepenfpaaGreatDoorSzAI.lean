/-
  A symbolic machine for one call, with rows of any length: rows of numbers that the library sorts, or takes repeated ones out of.
-/
import Derived.Test.YtfbldjaepenfpaaGreatDoorSzAH
import Derived.Lib.RowBridge
import Derived.Lib.SlicesCompact
import Derived.Sort.Grow
noncomputable section
namespace Go.Sz
open Go Go.RowKit Go.Sy Go.Sort Go.Lib Go.Proofs
set_option linter.unusedVariables false
set_option linter.unusedSimpArgs false
section
variable {w0 : World} {S : Nat → Nat → Prop} {R0 : Frag} {D : Nat → Prop} {H : Hf} {F : Frag} {r : Loc} {w : World}
end
section
variable {K : Know} {P : Program}
end
/-! ### What is once in a sorted row -/
end Go.Sz
