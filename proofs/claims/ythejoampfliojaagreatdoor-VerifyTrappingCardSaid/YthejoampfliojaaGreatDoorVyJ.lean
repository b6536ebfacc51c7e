/-
  The law VerifyTrapping: what its row says of the program (which functions it reaches, which variables), part by part.
-/
import Derived.Test.YthejoampfliojaaGreatDoorRows
import Derived.JoinedOf
import Derived.KernelRfl
namespace Go.Proofs.YthejoampfliojaaGreatDoor.vt
open Go
set_option maxRecDepth 100000

theorem jf1 : (Rows.verifyTrappingRow.inPlace == Tryz.pinned.checked.prog.inPlace 3) = true := by kernel_rfl
theorem jf2 : (Rows.verifyTrappingRow.unfollowed == Tryz.pinned.checked.prog.unfollowed 3) = true := by kernel_rfl
theorem jf3 : (Rows.verifyTrappingRow.recurses == Tryz.pinned.checked.prog.recurses 3) = true := by kernel_rfl
theorem jf4 : (Rows.verifyTrappingRow.named == Tryz.pinned.checked.prog.varsNamed 3) = true := by kernel_rfl
theorem jf : joinedFacts Tryz.pinned.checked.prog 3 Tryz.f3 Rows.verifyTrappingSpec Rows.verifyTrappingRow = true := by
  unfold joinedFacts
  rw [jf1, jf2, jf3, jf4]
  kernel_rfl
end Go.Proofs.YthejoampfliojaaGreatDoor.vt
