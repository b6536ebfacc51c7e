/-
  The law FamTail: what its card asks of the program.
-/
import Derived.Test.YtihjfikdpodffaaGreatDoorTie
import Derived.Test.YtihjfikdpodffaaGreatDoorCards
import Derived.SevenTiedAt
import Derived.Lib.TrailingZeros
namespace Go.Proofs.YtihjfikdpodffaaGreatDoor.ft
open Go Go.Proofs.YtihjfikdpodffaaGreatDoor
set_option linter.unusedVariables false
set_option linter.unusedSimpArgs false
set_option maxRecDepth 100000

theorem main_t : Tryz.pinned.checked.prog.mainIs = some (true, ("c1387fa617a9d69203395ca3292f673a191a2cc827cc13f69fd35c6148a29144" : String).toList) := by kernel_rfl
theorem wants_t : ∀ t ∈ Tryz.f3.params.toList, Tryz.prog.wantsStandIn t = false := of_decide_eq_true (by as_aux_lemma => kernel_rfl)
theorem named_t : Tryz.prog.funcNamed "barbican/barbicanlaw17.FamTail" = some 3 := by kernel_rfl
theorem looks_t : true = Tryz.prog.looks [] := by kernel_rfl
theorem wf_t : Rows.famTailRow.wfByText (OpenSpec.ofChange Rows.famTailSpec) = true := by kernel_rfl
end Go.Proofs.YtihjfikdpodffaaGreatDoor.ft
