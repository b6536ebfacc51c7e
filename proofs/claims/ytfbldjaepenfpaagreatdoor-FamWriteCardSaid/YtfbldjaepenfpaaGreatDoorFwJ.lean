/-
  The law FamWrite: what its row says of the program (which functions it reaches, which variables), part by part.
-/
import Derived.Test.YtfbldjaepenfpaaGreatDoorRows
import Derived.JoinedOf
import Derived.KernelRfl
namespace Go.Proofs.YtfbldjaepenfpaaGreatDoor.fw
open Go
set_option maxRecDepth 100000
theorem jf1 : (Rows.famWriteRow.inPlace == Tryz.pinned.checked.prog.inPlace 6) = true := by kernel_rfl
theorem jf2 : (Rows.famWriteRow.unfollowed == Tryz.pinned.checked.prog.unfollowed 6) = true := by kernel_rfl
theorem jf3 : (Rows.famWriteRow.recurses == Tryz.pinned.checked.prog.recurses 6) = true := by kernel_rfl
theorem jf4 : (Rows.famWriteRow.named == Tryz.pinned.checked.prog.varsNamed 6) = true := by kernel_rfl
theorem jf : joinedFacts Tryz.pinned.checked.prog 6 Tryz.f6 Rows.famWriteSpec Rows.famWriteRow = true := by
  unfold joinedFacts
  rw [jf1, jf2, jf3, jf4]
  kernel_rfl
end Go.Proofs.YtfbldjaepenfpaaGreatDoor.fw
