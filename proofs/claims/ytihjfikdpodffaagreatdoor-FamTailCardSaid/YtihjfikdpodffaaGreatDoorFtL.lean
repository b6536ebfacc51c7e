/-
  The law's own run, by its cases.
-/
import Derived.Test.YtihjfikdpodffaaGreatDoorFtY
import Derived.Test.YtihjfikdpodffaaGreatDoorFtZ
import Derived.Test.YtihjfikdpodffaaGreatDoorFtK
namespace Go.Proofs.YtihjfikdpodffaaGreatDoor
open Go Go.Sy Go.Sz Go.Vy
set_option linter.unusedVariables false
set_option linter.unusedSimpArgs false
set_option maxRecDepth 1000000
noncomputable def c3 : Code := Tryz.f3.body.getD .skip
noncomputable def r5w (a k : Int) : Row := ⟨[.c (.y 1 (.v (.int .i64 a))), .c (.y 69 (.v (.int .i64 (IntKind.i64.wrap k))))], [], OV, OB a k⟩
noncomputable def as3 (a k : Int) (p : Bool) (b : BitVec 8) : List AV := [.c (.y 1 (.v (.int .i64 a))), .c (.y 3 (.v (.int .i32 k))), .c (.v (.bool p)), .c (.y 300 (.w .u8 b))]
noncomputable def LB (a k : Int) (b : BitVec 8) : List (Nat × Summ) := (5, knowS (A5 a k) [r5w a k]) :: (7, knowS (A7 a k) [r7 a k]) :: (6, knowS S_v6 [r6 a k]) :: (10, consS (r10 b) S_v10) :: L_v3
noncomputable def LF (a k : Int) (b : BitVec 8) : List (Nat × Summ) := (4, Skn) :: (9, knowS (A9F a k b) [r9F a k b]) :: LB a k b
noncomputable def LT (a k : Int) (b : BitVec 8) : List (Nat × Summ) := (4, Skn) :: (8, knowS S_v8 [r8T a k b]) :: (9, knowS (A9T a k b) [r9T a k b]) :: LB a k b
noncomputable def L0 : List (Nat × Summ) := (4, Skn) :: L_v3
noncomputable def ev3 (l : List (Nat × Summ)) (a k : Int) (p : Bool) (b : BitVec 8) : Tree (AV × List Ob) := evalFnL Tryz.prog (lkC l) 400 noL Tryz.f3 c3 [] (as3 a k p b) []
theorem body3 : Tryz.f3.body = some c3 := by kernel_rfl
theorem t5w (a k : Int) (ha1 : -2147483648 ≤ a) (ha2 : a ≤ 2147483647) (hk1 : -2147483648 ≤ k) (hk2 : k ≤ 2147483647) : ((A5 a k).g (r5w a k).as (r5w a k).hp).run = some ((r5w a k).v, (r5w a k).hp') := by
  have := t5 a k ha1 ha2 hk1 hk2
  unfold r5w
  rw [wrap64 (n := k) (by omega) (by omega)]
  exact this
theorem kB (a k : Int) (b : BitVec 8) (ha1 : -2147483648 ≤ a) (ha2 : a ≤ 2147483647) (hk1 : -2147483648 ≤ k) (hk2 : k ≤ 2147483647) : TOk Kn Tryz.prog (lk (LB a k b)) :=
  lk_cons (know_ok (okA5 a k ha1 ha2 hk1 hk2) (rows_cons (t5w a k ha1 ha2 hk1 hk2) (rows_nil _))) (lk_cons (know_ok (okA7 a k) (rows_cons (t7 a k) (rows_nil _))) (lk_cons (know_ok ok_v6 (rows_cons (t6 a k) (rows_nil _))) (lk_cons (ok10 b) tok_v3)))
theorem kF (a k : Int) (b : BitVec 8) (h1 : 0 ≤ a) (h2 : a ≤ 1000) (hk1 : -2147483648 ≤ k) (hk2 : k ≤ 2147483647) : TOk Kn Tryz.prog (lk (LF a k b)) :=
  lk_cons ok_kn (lk_cons (know_ok (ok9F a k b h1 h2) (rows_cons (t9F a k b) (rows_nil _))) (kB a k b (by omega) (by omega) hk1 hk2))
theorem k0 : TOk Kn Tryz.prog (lk L0) := lk_cons ok_kn tok_v3
theorem elo (a k : Int) (p : Bool) (b : BitVec 8) (h : a < 0) : (ev3 L0 a k p b).run = some (AV.b true, []) :=
  run_ofQ [false, false, true, true] (cs := [!(!decide (a < (0 : Int))), !(!decide (a < (0 : Int))), decide (a < (0 : Int)), true]) (by kernel_rfl) (by kernel_rfl) (by simp only [decide_eq_true h]; rfl)
theorem ehi (a k : Int) (p : Bool) (b : BitVec 8) (h0 : 0 ≤ a) (h : 1000 < a) : (ev3 L0 a k p b).run = some (AV.b true, []) :=
  run_ofQ [true, true, true] (cs := [!decide (a < (0 : Int)), !decide (a < (0 : Int)), bif decide (a < (0 : Int)) then true else decide ((1000 : Int) < a)]) (by kernel_rfl) (by kernel_rfl) (by simp only [decide_eq_false (show ¬ a < 0 by omega), decide_eq_true h]; rfl)
noncomputable def vF (k : Int) : AV := .c (.y 42387 (.v (.bool (KW k == KW k))))
theorem eF (a k : Int) (b : BitVec 8) (h0 : 0 ≤ a) (h : a ≤ 1000) : (ev3 (LF a k b) a k false b).run = some (vF k, []) :=
  run_ofQ [true, true, false] (cs := [!decide (a < (0 : Int)), !decide (a < (0 : Int)), !(bif decide (a < (0 : Int)) then true else decide ((1000 : Int) < a))]) (by kernel_rfl) (by kernel_rfl) (by simp only [decide_eq_false (show ¬ a < 0 by omega), decide_eq_false (show ¬ (1000 : Int) < a by omega)]; rfl)
theorem eG (a k : Int) (b : BitVec 8) (h0 : 4 ≤ a) (h : a ≤ 1000) : (ev3 (LF a k b) a k true b).run = some (vF k, []) :=
  run_ofQ [true, true, false, false] (cs := [!decide (a < (0 : Int)), !decide (a < (0 : Int)), !(bif decide (a < (0 : Int)) then true else decide ((1000 : Int) < a)), !decide (a < (4 : Int))]) (by kernel_rfl) (by kernel_rfl) (by simp only [decide_eq_false (show ¬ a < 0 by omega), decide_eq_false (show ¬ (1000 : Int) < a by omega), decide_eq_false (show ¬ a < 4 by omega)]; rfl)
theorem cT (b : BitVec 8) : allTrue [true,
  true,
  !(false),
  true,
  eqPV (PV.v (Value.bool (BitVec.setWidth (64 : Nat) b == BitVec.setWidth (64 : Nat) b))) (PV.v (Value.bool true))] = true := at1 rfl (at1 rfl (at1 rfl (at1 rfl (at1 (pbt (beq_self_eq_true _)) (at0)))))
theorem kT0 (k : Int) (b : BitVec 8) (hk1 : -2147483648 ≤ k) (hk2 : k ≤ 2147483647) : TOk Kn Tryz.prog (lk (LT 0 k b)) :=
  lk_cons ok_kn (lk_cons (know_ok ok_v8 (rows_cons (t8T0 k b) (rows_nil _))) (lk_cons (know_ok (ok9T0 k b) (rows_cons (t9T0 k b) (rows_nil _))) (kB 0 k b (by decide) (by decide) hk1 hk2)))
theorem eT0 (k : Int) (b : BitVec 8) : (ev3 (LT 0 k b) 0 k true b).run = some (AV.b true, []) := run_ofQ [true, true, false, true, true] (by kernel_rfl) (by kernel_rfl) (cT b)
theorem kT1 (k : Int) (b : BitVec 8) (hk1 : -2147483648 ≤ k) (hk2 : k ≤ 2147483647) : TOk Kn Tryz.prog (lk (LT 1 k b)) :=
  lk_cons ok_kn (lk_cons (know_ok ok_v8 (rows_cons (t8T1 k b) (rows_nil _))) (lk_cons (know_ok (ok9T1 k b) (rows_cons (t9T1 k b) (rows_nil _))) (kB 1 k b (by decide) (by decide) hk1 hk2)))
theorem eT1 (k : Int) (b : BitVec 8) : (ev3 (LT 1 k b) 1 k true b).run = some (AV.b true, []) := run_ofQ [true, true, false, true, true] (by kernel_rfl) (by kernel_rfl) (cT b)
theorem kT2 (k : Int) (b : BitVec 8) (hk1 : -2147483648 ≤ k) (hk2 : k ≤ 2147483647) : TOk Kn Tryz.prog (lk (LT 2 k b)) :=
  lk_cons ok_kn (lk_cons (know_ok ok_v8 (rows_cons (t8T2 k b) (rows_nil _))) (lk_cons (know_ok (ok9T2 k b) (rows_cons (t9T2 k b) (rows_nil _))) (kB 2 k b (by decide) (by decide) hk1 hk2)))
theorem eT2 (k : Int) (b : BitVec 8) : (ev3 (LT 2 k b) 2 k true b).run = some (AV.b true, []) := run_ofQ [true, true, false, true, true] (by kernel_rfl) (by kernel_rfl) (cT b)
theorem kT3 (k : Int) (b : BitVec 8) (hk1 : -2147483648 ≤ k) (hk2 : k ≤ 2147483647) : TOk Kn Tryz.prog (lk (LT 3 k b)) :=
  lk_cons ok_kn (lk_cons (know_ok ok_v8 (rows_cons (t8T3 k b) (rows_nil _))) (lk_cons (know_ok (ok9T3 k b) (rows_cons (t9T3 k b) (rows_nil _))) (kB 3 k b (by decide) (by decide) hk1 hk2)))
theorem eT3 (k : Int) (b : BitVec 8) : (ev3 (LT 3 k b) 3 k true b).run = some (AV.b true, []) := run_ofQ [true, true, false, true, true] (by kernel_rfl) (by kernel_rfl) (cT b)
theorem ev_law (a k : Int) (p : Bool) (b : BitVec 8) (hk : -2147483648 ≤ k ∧ k ≤ 2147483647) : ∃ aa : List AV, aa.map plA = [.c (.v (.int .i64 a)), .c (.v (.int .i32 k)), .c (.v (.bool p)), .c (.w .u8 b)] ∧ ∃ T, TOk Kn Tryz.prog T ∧ ∃ L, LOk Tryz.prog T Tryz.f3.ntmps 0 400 L c3 ∧ ∃ av, plA av = AV.b true ∧ isPan av = none ∧ (evalFnL Tryz.prog T 400 L Tryz.f3 c3 [] aa []).run = some (av, []) := by
  have fin : ∀ {l : List (Nat × Summ)} {av : AV}, TOk Kn Tryz.prog (lk l) → plA av = AV.b true → isPan av = none → (ev3 l a k p b).run = some (av, []) → ∃ aa : List AV, aa.map plA = [.c (.v (.int .i64 a)), .c (.v (.int .i32 k)), .c (.v (.bool p)), .c (.w .u8 b)] ∧ ∃ T, TOk Kn Tryz.prog T ∧ ∃ L, LOk Tryz.prog T Tryz.f3.ntmps 0 400 L c3 ∧ ∃ av, plA av = AV.b true ∧ isPan av = none ∧ (evalFnL Tryz.prog T 400 L Tryz.f3 c3 [] aa []).run = some (av, []) :=
    fun h1 h2 h3 h4 => ⟨as3 a k p b, rfl, _, tok_cl h1, noL, noL_ok _ _ _ _ _ _, _, h2, h3, h4⟩
  have hv : plA (vF k) = AV.b true := by
    show AV.c (.v (.bool (KW k == KW k))) = _
    rw [beq_self_eq_true]
  obtain ⟨hk1, hk2⟩ := hk
  rcases (by omega : a < 0 ∨ 1000 < a ∧ 0 ≤ a ∨ 0 ≤ a ∧ a ≤ 1000) with h | h | ⟨h0, h1⟩
  · exact fin k0 rfl rfl (elo a k p b h)
  · exact fin k0 rfl rfl (ehi a k p b h.2 h.1)
  · cases p with
    | false => exact fin (kF a k b h0 h1 hk1 hk2) hv rfl (eF a k b h0 h1)
    | true =>
      rcases (by omega : a = 0 ∨ a = 1 ∨ a = 2 ∨ a = 3 ∨ 4 ≤ a) with h | h | h | h | h
      · subst h; exact fin (kT0 k b hk1 hk2) rfl rfl (eT0 k b)
      · subst h; exact fin (kT1 k b hk1 hk2) rfl rfl (eT1 k b)
      · subst h; exact fin (kT2 k b hk1 hk2) rfl rfl (eT2 k b)
      · subst h; exact fin (kT3 k b hk1 hk2) rfl rfl (eT3 k b)
      · exact fin (kF a k b h0 h1 hk1 hk2) hv rfl (eG a k b h h1)
end Go.Proofs.YtihjfikdpodffaaGreatDoor
