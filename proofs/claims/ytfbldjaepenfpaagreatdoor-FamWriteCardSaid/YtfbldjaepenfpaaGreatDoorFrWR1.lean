/-
  The machine's run of one object; that it is taken.
-/
import Derived.Test.YtfbldjaepenfpaaGreatDoorFvWR1
import Derived.Test.YtfbldjaepenfpaaGreatDoorVyP
namespace Go.Proofs.YtfbldjaepenfpaaGreatDoor
open Go Go.Sy Go.Sz Go.Vy
set_option linter.unusedVariables false
set_option linter.unusedSimpArgs false
set_option maxRecDepth 1000000
noncomputable def A7_WR1 (a : Int) : Summ := mkS ((21, knowS (A11_WR1 a) [r11_WR1 a]) :: L_v6) Tryz.f11
theorem okA7_WR1 (a : Int) : SummOk Kn Tryz.prog 11 (A7_WR1 a) := sumE_ok (tok_cl (lk_cons (ck_WR1 a) tok_v6)) Tryz.checked.mixed Tryz.func11 (by kernel_rfl) (by rfl) 400 []
noncomputable def r7_WR1 (a : Int) : Row := ⟨[OV_WR1], OB_WR1 a, .p (.one (.v (.bool true))), OB_WR1 a⟩
theorem t7_WR1 (a : Int) : ((A7_WR1 a).g (r7_WR1 a).as (r7_WR1 a).hp).run = some ((r7_WR1 a).v, (r7_WR1 a).hp') := Tree.run_of [] (cs := []) (by kernel_rfl) (by kernel_rfl) rfl
noncomputable def r503_WR1 (a : Int) : Row := ⟨[OV_WR1, .p (.many [.h 2, .v (.slice none 0 0), .v (.slice none 0 0)]), .c (.v (.slice none 0 0))], [.row (.cons (.i .i64) (.cons (.i .i64) (.cons (.i .i64) (.cons (.i .i64) (.cons .b (.cons (.i .i64) .nil)))))) [(2, 4, 8, 4, false, 0, ())], .lit [.v (.string (ByteArray.mk #[109, 97, 105, 110])), .h 3], .row (.cons (.w .u8) .nil) (rp 64 (0#8, ()) []), .lr 5 7 [.w .u8 98#8, .w .u8 10#8, .w .u8 0#8, .v (.int .i16 (-4)), .y 101 (.v (.int .i32 a)), .w .u8 24#8, .w .u8 1#8, .w .u8 1#8, .v (.int .i16 0), .v (.int .i32 0), .w .u8 0#8, .w .u8 0#8, .w .u8 0#8, .v (.int .i16 0), .v (.int .i32 0), .w .u8 191#8, .w .u8 2#8, .w .u8 10#8, .v (.int .i16 0), .v (.int .i32 0), .w .u8 7#8, .w .u8 2#8, .w .u8 0#8, .v (.int .i16 0), .v (.int .i32 (-4)), .w .u8 133#8, .w .u8 0#8, .w .u8 0#8, .v (.int .i16 0), .v (.int .i32 3), .w .u8 149#8, .w .u8 0#8, .w .u8 0#8, .v (.int .i16 0), .v (.int .i32 0)]], .t [.one (.w .u64 18446744073709551614#64), .one (.v (.bool true))], [.row (.cons (.i .i64) (.cons (.i .i64) (.cons (.i .i64) (.cons (.i .i64) (.cons .b (.cons (.i .i64) .nil)))))) [(2, 4, 8, 4, false, 0, ())], .lit [.v (.string (ByteArray.mk #[109, 97, 105, 110])), .h 3], .row (.cons (.w .u8) .nil) (rp 64 (0#8, ()) []), .lr 5 7 [.w .u8 98#8, .w .u8 10#8, .w .u8 0#8, .v (.int .i16 (-4)), .y 101 (.v (.int .i32 a)), .w .u8 24#8, .w .u8 1#8, .w .u8 1#8, .v (.int .i16 0), .v (.int .i32 0), .w .u8 0#8, .w .u8 0#8, .w .u8 0#8, .v (.int .i16 0), .v (.int .i32 0), .w .u8 191#8, .w .u8 2#8, .w .u8 10#8, .v (.int .i16 0), .v (.int .i32 0), .w .u8 7#8, .w .u8 2#8, .w .u8 0#8, .v (.int .i16 0), .v (.int .i32 (-4)), .w .u8 133#8, .w .u8 0#8, .w .u8 0#8, .v (.int .i16 0), .v (.int .i32 3), .w .u8 149#8, .w .u8 0#8, .w .u8 0#8, .v (.int .i16 0), .v (.int .i32 0)]]⟩
theorem c503_WR1 (a : Int) : allTrue [!(false), eqPV (PV.w IntKind.u64 (BitVec.ofInt (64 : Nat) (IntKind.i64.wrap a) >>> (0 : Nat))) (PV.w IntKind.u64 (BitVec.ofInt (64 : Nat) (IntKind.i64.wrap a))), !(false), !(false), !(false)] = true := at1 rfl (at1 (by first | exact pw rfl | exact pw (by simp) | exact pin rfl | exact pbt rfl) (at1 rfl (at1 rfl (at1 rfl (at0)))))
theorem t503_WR1 (a : Int) : (S_v9.g (r503_WR1 a).as (r503_WR1 a).hp).run = some ((r503_WR1 a).v, (r503_WR1 a).hp') := run_ofQ [false, true, false, false, false] (by kernel_rfl) (by kernel_rfl) (c503_WR1 a)
end Go.Proofs.YtfbldjaepenfpaaGreatDoor
