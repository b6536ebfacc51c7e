/-
  The law FamWrite: its row.
-/
import Derived.Test.YtfbldjaepenfpaaGreatDoorTie
import Derived.Test.YtfbldjaepenfpaaGreatDoorCards
import Derived.SevenTiedAt
import Derived.Lib.TrailingZeros
import Derived.Test.YtfbldjaepenfpaaGreatDoorFwJ
import Derived.Test.YtfbldjaepenfpaaGreatDoorFwG
namespace Go.Proofs.YtfbldjaepenfpaaGreatDoor.fw
open Go Go.Sy Go.Sz Go.Vy Go.Proofs.YtfbldjaepenfpaaGreatDoor
set_option linter.unusedVariables false
set_option linter.unusedSimpArgs false
set_option maxRecDepth 100000
theorem over : Rows.famWriteRow.holds Tryz.pinned (OpenSpec.ofChange Rows.famWriteSpec) :=
  OpenClaim.holds_of_wide 6 Tryz.f6 rfl rfl rfl rfl rfl rfl rfl ⟨rfl, rfl, rfl, rfl, rfl⟩ rfl rfl rfl rfl rfl (by as_aux_lemma => kernel_rfl) Tryz.func6 jf
    (of_decide_eq_true (by as_aux_lemma => kernel_rfl)) (by unfold Func.isWrapper; first | (rw [if_pos (by decide +kernel)]; kernel_rfl) | (rw [if_neg (by decide +kernel)]; exact ⟨rfl, rfl⟩))
    (fun os started H enc _ => lifted os started enc)
end Go.Proofs.YtfbldjaepenfpaaGreatDoor.fw
