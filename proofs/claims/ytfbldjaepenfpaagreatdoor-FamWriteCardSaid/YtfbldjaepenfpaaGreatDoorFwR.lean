/-
  What makes the objects.
-/
import Derived.Test.YtfbldjaepenfpaaGreatDoorFtxW
import Derived.Test.YtfbldjaepenfpaaGreatDoorFvWR0
import Derived.Test.YtfbldjaepenfpaaGreatDoorFvWR1
import Derived.Test.YtfbldjaepenfpaaGreatDoorFvS
import Derived.Test.YtfbldjaepenfpaaGreatDoorFvSM3
import Derived.Test.YtfbldjaepenfpaaGreatDoorVyP
namespace Go.Proofs.YtfbldjaepenfpaaGreatDoor
open Go Go.Sy Go.Sz Go.Vy Go.Fa
set_option linter.unusedVariables false
set_option linter.unusedSimpArgs false
set_option maxRecDepth 1000000
noncomputable def rNa (a : Int) : Row := ⟨[.c (.y 41 (.v (.int .i64 a)))], [], .c (.y 5003 (.v (.string (B (nb a))))), []⟩
noncomputable def rNk (k : Int) : Row := ⟨[.c (.y 69 (.v (.int .i64 k)))], [], .c (.y 5005 (.v (.string (B (nb k))))), []⟩
noncomputable def D13_WR0 (a k : Int) : Summ := rowsS S_v23 [rNa a, rNk k]
noncomputable def A12_WR0 (a k : Int) : Summ := mkS ((43, D14_WR0 a k) :: L_v6) Tryz.f22
noncomputable def A5_WR0 (a k : Int) : Summ := mkS ((23, D13_WR0 a k) :: (22, A12_WR0 a k) :: L_v6) Tryz.f19
theorem k13_WR0 (a k : Int) (a1 : -2147483648 ≤ a) (a2 : a ≤ 2147483647) (k1 : -2147483648 ≤ k) (k2 : k ≤ 2147483647) : SummOk Kn Tryz.prog 23 (D13_WR0 a k) := rows_ok Fp.ok_n17 ok_v23 (fun r hr => by
    simp only [List.mem_cons, List.not_mem_nil, or_false] at hr
    rcases hr with rfl | rfl
    · exact gN _ _ a a1 a2
    · exact gN _ _ k k1 k2)
theorem okA5_WR0 (a k : Int) (a1 : -2147483648 ≤ a) (a2 : a ≤ 2147483647) (k1 : -2147483648 ≤ k) (k2 : k ≤ 2147483647) : SummOk Kn Tryz.prog 19 (A5_WR0 a k) :=
  sumE_ok (tok_cl (lk_cons (k13_WR0 a k a1 a2 k1 k2) (lk_cons (sumE_ok (tok_cl (lk_cons (k14_WR0 a k a1 a2 k1 k2) tok_v6)) Tryz.checked.mixed Tryz.func22 (by kernel_rfl) (by rfl) 400 []) tok_v6))) Tryz.checked.mixed Tryz.func19 (by kernel_rfl) (by rfl) 400 []
theorem c5_WR0 (a k : Int) (a1 : -2147483648 ≤ a) (a2 : a ≤ 2147483647) (k1 : -2147483648 ≤ k) (k2 : k ≤ 2147483647) : allTrue [((19 : Nat) + (Fa.B (nb a)).size).ble (9223372036854775807 : Nat), (({ data := { toList := [(42 : UInt8), (40 : UInt8), (117 : UInt8), (51 : UInt8), (50 : UInt8), (32 : UInt8), (42 : UInt8), (41 : UInt8), (40 : UInt8), (114 : UInt8), (49 : UInt8), (48 : UInt8), (32 : UInt8), (45 : UInt8), (52 : UInt8), (41 : UInt8), (32 : UInt8), (61 : UInt8), (32 : UInt8)] } } ++ Fa.B (nb a)).size + (22 : Nat)).ble (9223372036854775807 : Nat), (({ data := { toList := [(42 : UInt8), (40 : UInt8), (117 : UInt8), (51 : UInt8), (50 : UInt8), (32 : UInt8), (42 : UInt8), (41 : UInt8), (40 : UInt8), (114 : UInt8), (49 : UInt8), (48 : UInt8), (32 : UInt8), (45 : UInt8), (52 : UInt8), (41 : UInt8), (32 : UInt8), (61 : UInt8), (32 : UInt8)] } } ++ Fa.B (nb a) ++ { data := { toList := [(59 : UInt8), (32 : UInt8), (42 : UInt8), (40 : UInt8), (117 : UInt8), (54 : UInt8), (52 : UInt8), (32 : UInt8), (42 : UInt8), (41 : UInt8), (40 : UInt8), (114 : UInt8), (49 : UInt8), (48 : UInt8), (32 : UInt8), (45 : UInt8), (49 : UInt8), (54 : UInt8), (41 : UInt8), (32 : UInt8), (61 : UInt8), (32 : UInt8)] } }).size + (Fa.B (nb k)).size).ble (9223372036854775807 : Nat), (({ data := { toList := [(42 : UInt8), (40 : UInt8), (117 : UInt8), (51 : UInt8), (50 : UInt8), (32 : UInt8), (42 : UInt8), (41 : UInt8), (40 : UInt8), (114 : UInt8), (49 : UInt8), (48 : UInt8), (32 : UInt8), (45 : UInt8), (52 : UInt8), (41 : UInt8), (32 : UInt8), (61 : UInt8), (32 : UInt8)] } } ++ Fa.B (nb a) ++ { data := { toList := [(59 : UInt8), (32 : UInt8), (42 : UInt8), (40 : UInt8), (117 : UInt8), (54 : UInt8), (52 : UInt8), (32 : UInt8), (42 : UInt8), (41 : UInt8), (40 : UInt8), (114 : UInt8), (49 : UInt8), (48 : UInt8), (32 : UInt8), (45 : UInt8), (49 : UInt8), (54 : UInt8), (41 : UInt8), (32 : UInt8), (61 : UInt8), (32 : UInt8)] } } ++ Fa.B (nb k)).size + (75 : Nat)).ble (9223372036854775807 : Nat)] = true := by
  have la := len_nb a a1 a2
  have lk := len_nb k k1 k2
  have z0 : ({ data := { toList := [(42 : UInt8), (40 : UInt8), (117 : UInt8), (51 : UInt8), (50 : UInt8), (32 : UInt8), (42 : UInt8), (41 : UInt8), (40 : UInt8), (114 : UInt8), (49 : UInt8), (48 : UInt8), (32 : UInt8), (45 : UInt8), (52 : UInt8), (41 : UInt8), (32 : UInt8), (61 : UInt8), (32 : UInt8)] } } : ByteArray).size = 19 := rfl
  have z1 : ({ data := { toList := [(59 : UInt8), (32 : UInt8), (42 : UInt8), (40 : UInt8), (117 : UInt8), (54 : UInt8), (52 : UInt8), (32 : UInt8), (42 : UInt8), (41 : UInt8), (40 : UInt8), (114 : UInt8), (49 : UInt8), (48 : UInt8), (32 : UInt8), (45 : UInt8), (49 : UInt8), (54 : UInt8), (41 : UInt8), (32 : UInt8), (61 : UInt8), (32 : UInt8)] } } : ByteArray).size = 22 := rfl
  refine at1 ?_ (at1 ?_ (at1 ?_ (at1 ?_ (at0)))) <;>
  · refine Nat.ble_eq_true_of_le ?_
    simp only [ByteArray.size_append, B_size, z0, z1]
    omega
theorem t5p_WR0 (a k : Int) (a1 : -2147483648 ≤ a) (a2 : a ≤ 2147483647) (k1 : -2147483648 ≤ k) (k2 : k ≤ 2147483647) : ((A5_WR0 a k).g [.c (.y 41 (.v (.int .i64 a))), .c (.y 69 (.v (.int .i64 k))), .c (.v (.bool false))] []).run = some (OV_WR0, OB_WR0 a k) :=
  run_ofQ [true, true, true, true] (by kernel_rfl) (by kernel_rfl) (c5_WR0 a k a1 a2 k1 k2)
noncomputable def r5_WR0 (a k : Int) : Row := ⟨[.c (.y 41 (.v (.int .i64 (IntKind.i64.wrap a)))), .c (.y 69 (.v (.int .i64 (IntKind.i64.wrap k)))), .c (.v (.bool false))], [], OV_WR0, OB_WR0 a k⟩
theorem t5_WR0 (a k : Int) (a1 : -2147483648 ≤ a) (a2 : a ≤ 2147483647) (k1 : -2147483648 ≤ k) (k2 : k ≤ 2147483647) : ((A5_WR0 a k).g (r5_WR0 a k).as (r5_WR0 a k).hp).run = some ((r5_WR0 a k).v, (r5_WR0 a k).hp') := by
  have := t5p_WR0 a k a1 a2 k1 k2
  unfold r5_WR0
  rw [wrap64 (n := a) (by omega) (by omega), wrap64 (n := k) (by omega) (by omega)]
  exact this
noncomputable def D13_WR1 (a : Int) : Summ := rowsS S_v23 [rNa a]
noncomputable def A12_WR1 (a : Int) : Summ := mkS ((43, D14_WR1 a) :: L_v6) Tryz.f22
noncomputable def A5_WR1 (a : Int) : Summ := mkS ((23, D13_WR1 a) :: (22, A12_WR1 a) :: L_v6) Tryz.f19
theorem k13_WR1 (a : Int) (a1 : -2147483648 ≤ a) (a2 : a ≤ 2147483647) : SummOk Kn Tryz.prog 23 (D13_WR1 a) := rows_ok Fp.ok_n17 ok_v23 (fun r hr => by
    simp only [List.mem_cons, List.not_mem_nil, or_false] at hr
    rcases hr with rfl
    · exact gN _ _ a a1 a2)
theorem okA5_WR1 (a : Int) (a1 : -2147483648 ≤ a) (a2 : a ≤ 2147483647) : SummOk Kn Tryz.prog 19 (A5_WR1 a) :=
  sumE_ok (tok_cl (lk_cons (k13_WR1 a a1 a2) (lk_cons (sumE_ok (tok_cl (lk_cons (k14_WR1 a a1 a2) tok_v6)) Tryz.checked.mixed Tryz.func22 (by kernel_rfl) (by rfl) 400 []) tok_v6))) Tryz.checked.mixed Tryz.func19 (by kernel_rfl) (by rfl) 400 []
theorem c5_WR1 (a k : Int) (a1 : -2147483648 ≤ a) (a2 : a ≤ 2147483647) : allTrue [((19 : Nat) + (Fa.B (nb a)).size).ble (9223372036854775807 : Nat), (({ data := { toList := [(42 : UInt8), (40 : UInt8), (117 : UInt8), (51 : UInt8), (50 : UInt8), (32 : UInt8), (42 : UInt8), (41 : UInt8), (40 : UInt8), (114 : UInt8), (49 : UInt8), (48 : UInt8), (32 : UInt8), (45 : UInt8), (52 : UInt8), (41 : UInt8), (32 : UInt8), (61 : UInt8), (32 : UInt8)] } } ++ Fa.B (nb a)).size + (46 : Nat)).ble (9223372036854775807 : Nat)] = true := by
  have la := len_nb a a1 a2
  have z0 : ({ data := { toList := [(42 : UInt8), (40 : UInt8), (117 : UInt8), (51 : UInt8), (50 : UInt8), (32 : UInt8), (42 : UInt8), (41 : UInt8), (40 : UInt8), (114 : UInt8), (49 : UInt8), (48 : UInt8), (32 : UInt8), (45 : UInt8), (52 : UInt8), (41 : UInt8), (32 : UInt8), (61 : UInt8), (32 : UInt8)] } } : ByteArray).size = 19 := rfl
  refine at1 ?_ (at1 ?_ (at0)) <;>
  · refine Nat.ble_eq_true_of_le ?_
    simp only [ByteArray.size_append, B_size, z0]
    omega
theorem t5p_WR1 (a k : Int) (a1 : -2147483648 ≤ a) (a2 : a ≤ 2147483647) : ((A5_WR1 a).g [.c (.y 41 (.v (.int .i64 a))), .c (.y 69 (.v (.int .i64 k))), .c (.v (.bool true))] []).run = some (OV_WR1, OB_WR1 a) :=
  run_ofQ [true, true] (by kernel_rfl) (by kernel_rfl) (c5_WR1 a k a1 a2)
noncomputable def r5_WR1 (a k : Int) : Row := ⟨[.c (.y 41 (.v (.int .i64 (IntKind.i64.wrap a)))), .c (.y 69 (.v (.int .i64 (IntKind.i64.wrap k)))), .c (.v (.bool true))], [], OV_WR1, OB_WR1 a⟩
theorem t5_WR1 (a k : Int) (a1 : -2147483648 ≤ a) (a2 : a ≤ 2147483647) (k1 : -2147483648 ≤ k) (k2 : k ≤ 2147483647) : ((A5_WR1 a).g (r5_WR1 a k).as (r5_WR1 a k).hp).run = some ((r5_WR1 a k).v, (r5_WR1 a k).hp') := by
  have := t5p_WR1 a k a1 a2
  unfold r5_WR1
  rw [wrap64 (n := a) (by omega) (by omega), wrap64 (n := k) (by omega) (by omega)]
  exact this
theorem c5_SM0 (k : Int)  : allTrue [true] = true := at1 rfl (at0)
theorem t5p_SM0 (k : Int)  : (S_v20.g [.c (.y 216263 (.v (.int .i64 0))), .c (.y 69 (.v (.int .i64 k)))] []).run = some (OV_SM0, OB_SM0 ) :=
  run_ofQ [true] (by kernel_rfl) (by kernel_rfl) (c5_SM0 k )
noncomputable def r5_SM0 (x k : Int) : Row := ⟨[.c (.y 216263 (.v (.int .i64 x))), .c (.y 69 (.v (.int .i64 (IntKind.i64.wrap k))))], [], OV_SM0, OB_SM0 ⟩
theorem t5_SM0 (x k : Int) (hx : x = 0) (k1 : -2147483648 ≤ k) (k2 : k ≤ 2147483647) : (S_v20.g (r5_SM0 x k).as (r5_SM0 x k).hp).run = some ((r5_SM0 x k).v, (r5_SM0 x k).hp') := by
  subst hx
  have := t5p_SM0 k 
  unfold r5_SM0
  rw [wrap64 (n := k) (by omega) (by omega)]
  exact this
theorem c5_SM1 (k : Int)  : allTrue [!(false), true] = true := at1 rfl (at1 rfl (at0))
theorem t5p_SM1 (k : Int)  : (S_v20.g [.c (.y 216263 (.v (.int .i64 1))), .c (.y 69 (.v (.int .i64 k)))] []).run = some (OV_SM1, OB_SM1 ) :=
  run_ofQ [false, true] (by kernel_rfl) (by kernel_rfl) (c5_SM1 k )
noncomputable def r5_SM1 (x k : Int) : Row := ⟨[.c (.y 216263 (.v (.int .i64 x))), .c (.y 69 (.v (.int .i64 (IntKind.i64.wrap k))))], [], OV_SM1, OB_SM1 ⟩
theorem t5_SM1 (x k : Int) (hx : x = 1) (k1 : -2147483648 ≤ k) (k2 : k ≤ 2147483647) : (S_v20.g (r5_SM1 x k).as (r5_SM1 x k).hp).run = some ((r5_SM1 x k).v, (r5_SM1 x k).hp') := by
  subst hx
  have := t5p_SM1 k 
  unfold r5_SM1
  rw [wrap64 (n := k) (by omega) (by omega)]
  exact this
theorem c5_SM2 (k : Int)  : allTrue [!(false), !(false), true] = true := at1 rfl (at1 rfl (at1 rfl (at0)))
theorem t5p_SM2 (k : Int)  : (S_v20.g [.c (.y 216263 (.v (.int .i64 2))), .c (.y 69 (.v (.int .i64 k)))] []).run = some (OV_SM2, OB_SM2 ) :=
  run_ofQ [false, false, true] (by kernel_rfl) (by kernel_rfl) (c5_SM2 k )
noncomputable def r5_SM2 (x k : Int) : Row := ⟨[.c (.y 216263 (.v (.int .i64 x))), .c (.y 69 (.v (.int .i64 (IntKind.i64.wrap k))))], [], OV_SM2, OB_SM2 ⟩
theorem t5_SM2 (x k : Int) (hx : x = 2) (k1 : -2147483648 ≤ k) (k2 : k ≤ 2147483647) : (S_v20.g (r5_SM2 x k).as (r5_SM2 x k).hp).run = some ((r5_SM2 x k).v, (r5_SM2 x k).hp') := by
  subst hx
  have := t5p_SM2 k 
  unfold r5_SM2
  rw [wrap64 (n := k) (by omega) (by omega)]
  exact this
noncomputable def D13_SM3 (k : Int) : Summ := rowsS S_v23 [rNk k]
noncomputable def A12_SM3 (k : Int) : Summ := mkS ((43, D14_SM3 k) :: L_v6) Tryz.f22
noncomputable def A5_SM3 (k : Int) : Summ := mkS ((23, D13_SM3 k) :: (22, A12_SM3 k) :: L_v6) Tryz.f20
theorem k13_SM3 (k : Int) (k1 : -2147483648 ≤ k) (k2 : k ≤ 2147483647) : SummOk Kn Tryz.prog 23 (D13_SM3 k) := rows_ok Fp.ok_n17 ok_v23 (fun r hr => by
    simp only [List.mem_cons, List.not_mem_nil, or_false] at hr
    rcases hr with rfl
    · exact gN _ _ k k1 k2)
theorem okA5_SM3 (k : Int) (k1 : -2147483648 ≤ k) (k2 : k ≤ 2147483647) : SummOk Kn Tryz.prog 20 (A5_SM3 k) :=
  sumE_ok (tok_cl (lk_cons (k13_SM3 k k1 k2) (lk_cons (sumE_ok (tok_cl (lk_cons (k14_SM3 k k1 k2) tok_v6)) Tryz.checked.mixed Tryz.func22 (by kernel_rfl) (by rfl) 400 []) tok_v6))) Tryz.checked.mixed Tryz.func20 (by kernel_rfl) (by rfl) 400 []
theorem c5_SM3 (k : Int) (k1 : -2147483648 ≤ k) (k2 : k ≤ 2147483647) : allTrue [!(false), !(false), !(false), ((19 : Nat) + (Fa.B (nb k)).size).ble (9223372036854775807 : Nat), (({ data := { toList := [(42 : UInt8), (40 : UInt8), (117 : UInt8), (54 : UInt8), (52 : UInt8), (32 : UInt8), (42 : UInt8), (41 : UInt8), (40 : UInt8), (114 : UInt8), (49 : UInt8), (48 : UInt8), (32 : UInt8), (45 : UInt8), (56 : UInt8), (41 : UInt8), (32 : UInt8), (61 : UInt8), (32 : UInt8)] } } ++ Fa.B (nb k)).size + (54 : Nat)).ble (9223372036854775807 : Nat)] = true := by
  have lk := len_nb k k1 k2
  have z0 : ({ data := { toList := [(42 : UInt8), (40 : UInt8), (117 : UInt8), (54 : UInt8), (52 : UInt8), (32 : UInt8), (42 : UInt8), (41 : UInt8), (40 : UInt8), (114 : UInt8), (49 : UInt8), (48 : UInt8), (32 : UInt8), (45 : UInt8), (56 : UInt8), (41 : UInt8), (32 : UInt8), (61 : UInt8), (32 : UInt8)] } } : ByteArray).size = 19 := rfl
  refine at1 rfl (at1 rfl (at1 rfl (at1 ?_ (at1 ?_ (at0))))) <;>
  · refine Nat.ble_eq_true_of_le ?_
    simp only [ByteArray.size_append, B_size, z0]
    omega
theorem t5p_SM3 (k : Int) (k1 : -2147483648 ≤ k) (k2 : k ≤ 2147483647) : ((A5_SM3 k).g [.c (.y 216263 (.v (.int .i64 3))), .c (.y 69 (.v (.int .i64 k)))] []).run = some (OV_SM3, OB_SM3 k) :=
  run_ofQ [false, false, false, true, true] (by kernel_rfl) (by kernel_rfl) (c5_SM3 k k1 k2)
noncomputable def r5_SM3 (x k : Int) : Row := ⟨[.c (.y 216263 (.v (.int .i64 x))), .c (.y 69 (.v (.int .i64 (IntKind.i64.wrap k))))], [], OV_SM3, OB_SM3 k⟩
theorem t5_SM3 (x k : Int) (hx : x = 3) (k1 : -2147483648 ≤ k) (k2 : k ≤ 2147483647) : ((A5_SM3 k).g (r5_SM3 x k).as (r5_SM3 x k).hp).run = some ((r5_SM3 x k).v, (r5_SM3 x k).hp') := by
  subst hx
  have := t5p_SM3 k k1 k2
  unfold r5_SM3
  rw [wrap64 (n := k) (by omega) (by omega)]
  exact this
end Go.Proofs.YtfbldjaepenfpaaGreatDoor
