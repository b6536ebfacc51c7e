/-
  A part of the proof (written by our own tools).
-/
import Derived.Test.YtihjfikdpodffaaGreatDoorVyA
import Derived.Test.YtihjfikdpodffaaGreatDoorVyP
namespace Go.Proofs.YtihjfikdpodffaaGreatDoor
open Go Go.Sy Go.Sz Go.Vy
set_option linter.unusedVariables false
set_option maxRecDepth 1000000
noncomputable def S10L : Summ := sumE [] false Tryz.prog (lkL L_v3) 400 Tryz.f10 (Tryz.f10.body.getD .skip) []
theorem ok10L : SummOk Kn Tryz.prog 10 S10L := sumE_ok (tok_lit tok_v3) Tryz.checked.mixed Tryz.func10 (by kernel_rfl) (by rfl) 400 []
noncomputable def h10 (b : BitVec 8) : List Ob := [.row (.cons (.w .u8) .nil) [(b, ())], .row (.cons (.w .u8) .nil) [(b, ()), (0#8, ()), (0#8, ()), (0#8, ()), (0#8, ()), (0#8, ()), (0#8, ()), (0#8, ()), (0#8, ()), (0#8, ()), (0#8, ()), (0#8, ()), (0#8, ()), (0#8, ()), (0#8, ()), (0#8, ()), (0#8, ()), (0#8, ()), (0#8, ()), (0#8, ()), (0#8, ()), (0#8, ()), (0#8, ()), (0#8, ()), (0#8, ()), (0#8, ()), (0#8, ()), (0#8, ()), (0#8, ()), (0#8, ()), (0#8, ()), (0#8, ()), (0#8, ()), (0#8, ()), (0#8, ()), (0#8, ()), (0#8, ()), (0#8, ()), (0#8, ()), (0#8, ()), (0#8, ()), (0#8, ()), (0#8, ()), (0#8, ()), (0#8, ()), (0#8, ()), (0#8, ()), (0#8, ()), (0#8, ()), (0#8, ()), (0#8, ()), (0#8, ()), (0#8, ()), (0#8, ()), (0#8, ()), (0#8, ()), (0#8, ()), (0#8, ()), (0#8, ()), (0#8, ()), (0#8, ()), (0#8, ()), (0#8, ()), (0#8, ())]]
theorem t10 (b : BitVec 8) : (S10L.g [.p (.one (.h 0))] [.row (.cons (.w .u8) .nil) [(b, ())]]).run = some (.p (.many [.h 1, .v (.slice none 0 0), .v (.slice none 0 0)]), h10 b) := by kernel_rfl
noncomputable def r10 (b : BitVec 8) : Row := ⟨[.p (.one (.h 0))], [.lr 1 1 [.y 300 (.w .u8 b)]], .p (.many [.h 1, .v (.slice none 0 0), .v (.slice none 0 0)]), [.lr 1 1 [.y 300 (.w .u8 b)], .lr 1 64 [.y 300 (.w .u8 b), .w .u8 0#8, .w .u8 0#8, .w .u8 0#8, .w .u8 0#8, .w .u8 0#8, .w .u8 0#8, .w .u8 0#8, .w .u8 0#8, .w .u8 0#8, .w .u8 0#8, .w .u8 0#8, .w .u8 0#8, .w .u8 0#8, .w .u8 0#8, .w .u8 0#8, .w .u8 0#8, .w .u8 0#8, .w .u8 0#8, .w .u8 0#8, .w .u8 0#8, .w .u8 0#8, .w .u8 0#8, .w .u8 0#8, .w .u8 0#8, .w .u8 0#8, .w .u8 0#8, .w .u8 0#8, .w .u8 0#8, .w .u8 0#8, .w .u8 0#8, .w .u8 0#8, .w .u8 0#8, .w .u8 0#8, .w .u8 0#8, .w .u8 0#8, .w .u8 0#8, .w .u8 0#8, .w .u8 0#8, .w .u8 0#8, .w .u8 0#8, .w .u8 0#8, .w .u8 0#8, .w .u8 0#8, .w .u8 0#8, .w .u8 0#8, .w .u8 0#8, .w .u8 0#8, .w .u8 0#8, .w .u8 0#8, .w .u8 0#8, .w .u8 0#8, .w .u8 0#8, .w .u8 0#8, .w .u8 0#8, .w .u8 0#8, .w .u8 0#8, .w .u8 0#8, .w .u8 0#8, .w .u8 0#8, .w .u8 0#8, .w .u8 0#8, .w .u8 0#8, .w .u8 0#8]]⟩
theorem g10 (b : BitVec 8) : RowH S10L (r10 b) [.row (.cons (.w .u8) .nil) [(b, ())]] :=
  ⟨.cons (.unrow rfl rfl rfl) (fun _ _ _ h => h) .nil, .p (.many [.h 1, .v (.slice none 0 0), .v (.slice none 0 0)]), h10 b, t10 b, rfl, rfl, rfl, rfl, .cons (.row rfl rfl rfl) (.cons (.row rfl rfl rfl) .nil)⟩
theorem ok10 (b : BitVec 8) : SummOk Kn Tryz.prog 10 (consS (r10 b) S_v10) := rowH_ok ok10L (g10 b) ok_v10
end Go.Proofs.YtihjfikdpodffaaGreatDoor
