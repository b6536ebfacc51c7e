/-
  The law's first question: the three verdicts that are known are told.
-/
import Derived.Test.YtfbldjaepenfpaaGreatDoorVyA
import Derived.Test.YtfbldjaepenfpaaGreatDoorVyP
namespace Go.Proofs.YtfbldjaepenfpaaGreatDoor
open Go Go.Sy Go.Sz Go.Vy
set_option linter.unusedVariables false
set_option maxRecDepth 1000000
noncomputable def rk0 : Row := ⟨[.p (.one (.v (.string (ByteArray.mk #[114, 48, 32, 61, 32, 48, 59, 32, 101, 120, 105, 116])))), .p (.one (.v (.slice none 0 0)))], [], .p (.many [.v (.slice none 0 0), .v (.slice none 0 0), .s 0 0 2 1 1]), [.lit [.v (.string (ByteArray.mk #[109, 97, 105, 110])), .h 1], .row (.cons (.w .u8) (.cons (.w .u8) (.cons (.w .u8) (.cons (.i .i16) (.cons (.i .i32) .nil))))) [(183#8, 0#8, 0#8, 0, 0, ()), (149#8, 0#8, 0#8, 0, 0, ())]]⟩
theorem tk0 : (S_v22.g rk0.as rk0.hp).run = some (rk0.v, rk0.hp') := by kernel_rfl
noncomputable def rk1 : Row := ⟨[.p (.many [.v (.slice none 0 0), .v (.slice none 0 0), .s 0 0 2 1 1]), .p (.one (.v (.int .i64 0)))], [.lit [.v (.string (ByteArray.mk #[109, 97, 105, 110])), .h 1], .row (.cons (.w .u8) (.cons (.w .u8) (.cons (.w .u8) (.cons (.i .i16) (.cons (.i .i32) .nil))))) [(183#8, 0#8, 0#8, 0, 0, ()), (149#8, 0#8, 0#8, 0, 0, ())]], .t [.many [.v (.int .i64 0), .v (.int .i64 0), .v (.int .i64 2)], .one (.v (.int .i64 0))], [.lit [.v (.string (ByteArray.mk #[109, 97, 105, 110])), .h 1], .row (.cons (.w .u8) (.cons (.w .u8) (.cons (.w .u8) (.cons (.i .i16) (.cons (.i .i32) .nil))))) [(183#8, 0#8, 0#8, 0, 0, ()), (149#8, 0#8, 0#8, 0, 0, ())]]⟩
theorem tk1 : (S_v21.g rk1.as rk1.hp).run = some (rk1.v, rk1.hp') := by kernel_rfl
noncomputable def rk2 : Row := ⟨[.p (.one (.v (.string (ByteArray.mk #[101, 120, 105, 116])))), .p (.one (.v (.slice none 0 0)))], [], .p (.many [.v (.slice none 0 0), .v (.slice none 0 0), .s 0 0 2 1 1]), [.lit [.v (.string (ByteArray.mk #[109, 97, 105, 110])), .h 1], .row (.cons (.w .u8) (.cons (.w .u8) (.cons (.w .u8) (.cons (.i .i16) (.cons (.i .i32) .nil))))) [(149#8, 0#8, 0#8, 0, 0, ())]]⟩
theorem tk2 : (S_v22.g rk2.as rk2.hp).run = some (rk2.v, rk2.hp') := by kernel_rfl
noncomputable def rk3 : Row := ⟨[.p (.many [.v (.slice none 0 0), .v (.slice none 0 0), .s 0 0 2 1 1]), .p (.one (.v (.int .i64 0)))], [.lit [.v (.string (ByteArray.mk #[109, 97, 105, 110])), .h 1], .row (.cons (.w .u8) (.cons (.w .u8) (.cons (.w .u8) (.cons (.i .i16) (.cons (.i .i32) .nil))))) [(149#8, 0#8, 0#8, 0, 0, ())]], .t [.many [.v (.int .i64 170), .v (.int .i64 0), .v (.int .i64 1)], .one (.v (.int .i64 0))], [.lit [.v (.string (ByteArray.mk #[109, 97, 105, 110])), .h 1], .row (.cons (.w .u8) (.cons (.w .u8) (.cons (.w .u8) (.cons (.i .i16) (.cons (.i .i32) .nil))))) [(149#8, 0#8, 0#8, 0, 0, ())]]⟩
theorem tk3 : (S_v21.g rk3.as rk3.hp).run = some (rk3.v, rk3.hp') := by kernel_rfl
noncomputable def rk4 : Row := ⟨[.p (.many [.v (.slice none 0 0), .v (.slice none 0 0), .v (.slice none 0 0)]), .p (.one (.v (.int .i64 0)))], [], .t [.many [.v (.int .i64 0), .v (.int .i64 0), .v (.int .i64 0)], .one (.v (.int .i64 52))], []⟩
theorem tk4 : (S_v21.g rk4.as rk4.hp).run = some (rk4.v, rk4.hp') := by kernel_rfl
noncomputable def Kk : List (Nat × Summ) := (21, knowS S_v21 [rk1, rk3, rk4]) :: (22, knowS S_v22 [rk0, rk2]) :: L_v6
theorem kk : TOk Kn Tryz.prog (lk Kk) := lk_cons (know_ok ok_v21 (rows_cons tk1 (rows_cons tk3 (rows_cons tk4 (rows_nil _))))) (lk_cons (know_ok ok_v22 (rows_cons tk0 (rows_cons tk2 (rows_nil _)))) tok_v6)
noncomputable def S4k : Summ := mkS Kk Tryz.f7
theorem ok4k : SummOk Kn Tryz.prog 7 S4k := sumE_ok (tok_cl kk) Tryz.checked.mixed Tryz.func7 (by kernel_rfl) (by rfl) 400 []
noncomputable def rkn : Row := ⟨[], [], .p (.one (.v (.bool true))), []⟩
theorem tkn : (S4k.g rkn.as rkn.hp).run = some (rkn.v, rkn.hp') := by kernel_rfl
noncomputable def Skn : Summ := knowS S4k [rkn]
theorem ok_kn : SummOk Kn Tryz.prog 7 Skn := know_ok ok4k (rows_cons tkn (rows_nil _))
end Go.Proofs.YtfbldjaepenfpaaGreatDoor
