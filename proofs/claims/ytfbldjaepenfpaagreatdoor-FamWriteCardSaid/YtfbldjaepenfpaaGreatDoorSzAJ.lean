/-
  A symbolic machine for one call, with rows of any length: what comes in lies in memory that is there.
-/
import Derived.Test.YtfbldjaepenfpaaGreatDoorSzAI
import Derived.SizedLaws
noncomputable section
namespace Go.Sz
open Go Go.RowKit Go.Sy Go.ChangeShapes Go.WideShapes
set_option linter.unusedVariables false
set_option linter.unusedSimpArgs false
section
variable {H : Type} {enc : TypeId × Value → H} {P : Program} {w : World} {base : Nat} {spare : Nat → Bool} {held : Bool}
end
section
variable {H : Type} {enc : TypeId × Value → H} {P : Program}
end
end Go.Sz
