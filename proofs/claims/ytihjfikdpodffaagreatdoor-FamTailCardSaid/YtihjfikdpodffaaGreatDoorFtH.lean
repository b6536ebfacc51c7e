/-
  The law FamTail: its row.
-/
import Derived.Test.YtihjfikdpodffaaGreatDoorTie
import Derived.Test.YtihjfikdpodffaaGreatDoorCards
import Derived.SevenTiedAt
import Derived.Lib.TrailingZeros
import Derived.Test.YtihjfikdpodffaaGreatDoorFtJ
import Derived.Test.YtihjfikdpodffaaGreatDoorFtG
namespace Go.Proofs.YtihjfikdpodffaaGreatDoor.ft
open Go Go.Sy Go.Sz Go.Vy Go.Proofs.YtihjfikdpodffaaGreatDoor
set_option linter.unusedVariables false
set_option linter.unusedSimpArgs false
set_option maxRecDepth 100000

theorem over : Rows.famTailRow.holds Tryz.pinned (OpenSpec.ofChange Rows.famTailSpec) :=
  OpenClaim.holds_of_wide 3 Tryz.f3 rfl rfl rfl rfl rfl rfl rfl ⟨rfl, rfl, rfl, rfl, rfl⟩ rfl rfl rfl rfl rfl (by as_aux_lemma => kernel_rfl) Tryz.func3 jf
    (of_decide_eq_true (by as_aux_lemma => kernel_rfl)) (by unfold Func.isWrapper; first | (rw [if_pos (by decide +kernel)]; kernel_rfl) | (rw [if_neg (by decide +kernel)]; exact ⟨rfl, rfl⟩))
    (fun os started H enc _ => lifted os started enc)
end Go.Proofs.YtihjfikdpodffaaGreatDoor.ft
