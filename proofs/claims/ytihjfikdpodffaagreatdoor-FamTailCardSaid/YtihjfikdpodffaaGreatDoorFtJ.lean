/-
  The law FamTail: what its row says of the program (which functions it reaches, which variables), part by part.
-/
import Derived.Test.YtihjfikdpodffaaGreatDoorRows
import Derived.JoinedOf
import Derived.KernelRfl
namespace Go.Proofs.YtihjfikdpodffaaGreatDoor.ft
open Go
set_option maxRecDepth 100000

theorem jf1 : (Rows.famTailRow.inPlace == Tryz.pinned.checked.prog.inPlace 3) = true := by kernel_rfl
theorem jf2 : (Rows.famTailRow.unfollowed == Tryz.pinned.checked.prog.unfollowed 3) = true := by kernel_rfl
theorem jf3 : (Rows.famTailRow.recurses == Tryz.pinned.checked.prog.recurses 3) = true := by kernel_rfl
theorem jf4 : (Rows.famTailRow.named == Tryz.pinned.checked.prog.varsNamed 3) = true := by kernel_rfl
theorem jf : joinedFacts Tryz.pinned.checked.prog 3 Tryz.f3 Rows.famTailSpec Rows.famTailRow = true := by
  unfold joinedFacts
  rw [jf1, jf2, jf3, jf4]
  kernel_rfl
end Go.Proofs.YtihjfikdpodffaaGreatDoor.ft
