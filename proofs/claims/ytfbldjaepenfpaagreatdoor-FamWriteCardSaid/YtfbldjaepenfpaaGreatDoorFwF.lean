/-
  The law FamWrite: updates and deletions, the clock, draws and outputs are taken, and run.
-/
import Derived.Test.YtfbldjaepenfpaaGreatDoorTie
import Derived.Test.YtfbldjaepenfpaaGreatDoorCards
import Derived.SevenTiedAt
import Derived.Lib.TrailingZeros
import Derived.Test.YtfbldjaepenfpaaGreatDoorFwH
import Derived.Test.YtfbldjaepenfpaaGreatDoorFwM
import Derived.Test.YtfbldjaepenfpaaGreatDoorFwN
namespace Go.Proofs.YtfbldjaepenfpaaGreatDoor.fw
open Go Go.Proofs.YtfbldjaepenfpaaGreatDoor
set_option linter.unusedVariables false
set_option linter.unusedSimpArgs false
set_option maxRecDepth 100000
theorem holds : Rows.FamWriteCardSaid :=
  Claim7.holds_tied_plain_at .later [] [.data] true (true, "c00d0f15ae0244c07e216931286c6ab47b7ed2b01dadc7116c8bf94826a2a232") true
    over (fun _ h => by cases h) wf_t (fun _ h => by cases h) famWrite_row_tie rfl ⟨rfl, rfl⟩ main_t rfl
    (fun f fn hf hfn => by
      obtain rfl : f = 6 := Option.some.inj (named_t.symm.trans hf) |>.symm
      obtain rfl : fn = Tryz.f6 := (Option.some.inj (Tryz.func6.symm.trans hfn)).symm
      exact ⟨looks_t, fun j t ht => wants_t t (Array.mem_toList_iff.2 (Array.mem_of_getElem? ht))⟩)
    (goes_false goes_none rfl)
end Go.Proofs.YtfbldjaepenfpaaGreatDoor.fw
