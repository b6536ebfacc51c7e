/-
  The law FamWrite: what its card asks of the program.
-/
import Derived.Test.YtfbldjaepenfpaaGreatDoorTie
import Derived.Test.YtfbldjaepenfpaaGreatDoorCards
import Derived.SevenTiedAt
import Derived.Lib.TrailingZeros
namespace Go.Proofs.YtfbldjaepenfpaaGreatDoor.fw
open Go Go.Proofs.YtfbldjaepenfpaaGreatDoor
set_option linter.unusedVariables false
set_option linter.unusedSimpArgs false
set_option maxRecDepth 100000
theorem main_t : Tryz.pinned.checked.prog.mainIs = some (true, ("c00d0f15ae0244c07e216931286c6ab47b7ed2b01dadc7116c8bf94826a2a232" : String).toList) := by kernel_rfl
theorem wants_t : ∀ t ∈ Tryz.f6.params.toList, Tryz.prog.wantsStandIn t = false := of_decide_eq_true (by as_aux_lemma => kernel_rfl)
theorem named_t : Tryz.prog.funcNamed "barbican/barbicanlaw17.FamWrite" = some 6 := by kernel_rfl
theorem looks_t : true = Tryz.prog.looks [] := by kernel_rfl
theorem wf_t : Rows.famWriteRow.wfByText (OpenSpec.ofChange Rows.famWriteSpec) = true := by kernel_rfl
end Go.Proofs.YtfbldjaepenfpaaGreatDoor.fw
