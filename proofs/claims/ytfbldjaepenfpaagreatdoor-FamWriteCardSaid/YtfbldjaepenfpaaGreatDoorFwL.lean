/-
  The law's own run, by its cases.
-/
import Derived.Test.YtfbldjaepenfpaaGreatDoorFwR
import Derived.Test.YtfbldjaepenfpaaGreatDoorFrWR0
import Derived.Test.YtfbldjaepenfpaaGreatDoorFrWR1
import Derived.Test.YtfbldjaepenfpaaGreatDoorFvS
import Derived.Test.YtfbldjaepenfpaaGreatDoorFrSM3
import Derived.Test.YtfbldjaepenfpaaGreatDoorFtK
namespace Go.Proofs.YtfbldjaepenfpaaGreatDoor
open Go Go.Sy Go.Sz Go.Vy
set_option linter.unusedVariables false
set_option linter.unusedSimpArgs false
set_option maxRecDepth 1000000
noncomputable def c604 : Code := Tryz.f6.body.getD .skip
noncomputable def X (w : Int) : Int := (IntKind.i64.wrap (w.tmod 4 + 4)).tmod 4
noncomputable def as604 (a k w : Int) (d : BitVec 32) : List AV := [.c (.y 1 (.v (.int .i32 a))), .c (.y 3 (.v (.int .i32 k))), .c (.y 5 (.v (.int .i64 w))), .c (.y 310 (.w .u32 d))]
noncomputable def ev604 (l : List (Nat × Summ)) (a k w : Int) (d : BitVec 32) : Tree (AV × List Ob) := evalFnL Tryz.prog (lkC l) 400 noL Tryz.f6 c604 [] (as604 a k w d) []
noncomputable def L0 (a k w : Int) (d : BitVec 32) : List (Nat × Summ) := (7, Skn) :: (19, consS (r5_WR0 a k) (knowS (A5_WR1 a) [r5_WR1 a k])) :: (20, knowS S_v20 [r5_SM0 (X w) k]) :: (9, consS (r503_WR0 a k) (knowS S_v9 [r503_WR1 a, r503_SM0 d])) :: (11, consS (r7_WR0 a k) (consS (r7_WR1 a) (knowS (A7_SM0 ) [r7_SM0 ]))) :: L_v6
noncomputable def L1 (a k w : Int) (d : BitVec 32) : List (Nat × Summ) := (7, Skn) :: (19, consS (r5_WR0 a k) (knowS (A5_WR1 a) [r5_WR1 a k])) :: (20, knowS S_v20 [r5_SM1 (X w) k]) :: (9, consS (r503_WR0 a k) (knowS S_v9 [r503_WR1 a, r503_SM1 d])) :: (11, consS (r7_WR0 a k) (consS (r7_WR1 a) (knowS (A7_SM1 ) [r7_SM1 ]))) :: L_v6
noncomputable def L2 (a k w : Int) (d : BitVec 32) : List (Nat × Summ) := (7, Skn) :: (19, consS (r5_WR0 a k) (knowS (A5_WR1 a) [r5_WR1 a k])) :: (20, knowS S_v20 [r5_SM2 (X w) k]) :: (9, consS (r503_WR0 a k) (knowS S_v9 [r503_WR1 a, r503_SM2 d])) :: (11, consS (r7_WR0 a k) (consS (r7_WR1 a) (knowS (A7_SM2 ) [r7_SM2 ]))) :: L_v6
noncomputable def L3 (a k w : Int) (d : BitVec 32) : List (Nat × Summ) := (7, Skn) :: (19, consS (r5_WR0 a k) (knowS (A5_WR1 a) [r5_WR1 a k])) :: (20, knowS (A5_SM3 k) [r5_SM3 (X w) k]) :: (9, consS (r503_WR0 a k) (knowS S_v9 [r503_WR1 a, r503_SM3 k d])) :: (11, consS (r7_WR0 a k) (consS (r7_WR1 a) (knowS (A7_SM3 k) [r7_SM3 k]))) :: L_v6
theorem body604 : Tryz.f6.body = some c604 := by kernel_rfl
theorem kL0 (a k w : Int) (d : BitVec 32) (hx : X w = 0) (a1 : -2147483648 ≤ a) (a2 : a ≤ 2147483647) (k1 : -2147483648 ≤ k) (k2 : k ≤ 2147483647) : TOk Kn Tryz.prog (lk (L0 a k w d)) :=
  lk_cons ok_kn (lk_cons (cons_ok (okA5_WR0 a k a1 a2 k1 k2) (t5_WR0 a k a1 a2 k1 k2) rfl (know_ok (okA5_WR1 a a1 a2) (rows_cons (t5_WR1 a k a1 a2 k1 k2) (rows_nil _))))
    (lk_cons (know_ok ok_v20 (rows_cons (t5_SM0 (X w) k hx k1 k2) (rows_nil _)))
      (lk_cons (cons_ok (okA503_WR0 a k) (t503_WR0 a k) rfl (know_ok ok_v9 (rows_cons (t503_WR1 a) (rows_cons (t503_SM0 d) (rows_nil _)))))
        (lk_cons (cons_ok (okA7_WR0 a k) (t7_WR0 a k) rfl (cons_ok (okA7_WR1 a) (t7_WR1 a) rfl (know_ok (okA7_SM0 ) (rows_cons (t7_SM0 ) (rows_nil _))))) tok_v6))))
theorem kL1 (a k w : Int) (d : BitVec 32) (hx : X w = 1) (a1 : -2147483648 ≤ a) (a2 : a ≤ 2147483647) (k1 : -2147483648 ≤ k) (k2 : k ≤ 2147483647) : TOk Kn Tryz.prog (lk (L1 a k w d)) :=
  lk_cons ok_kn (lk_cons (cons_ok (okA5_WR0 a k a1 a2 k1 k2) (t5_WR0 a k a1 a2 k1 k2) rfl (know_ok (okA5_WR1 a a1 a2) (rows_cons (t5_WR1 a k a1 a2 k1 k2) (rows_nil _))))
    (lk_cons (know_ok ok_v20 (rows_cons (t5_SM1 (X w) k hx k1 k2) (rows_nil _)))
      (lk_cons (cons_ok (okA503_WR0 a k) (t503_WR0 a k) rfl (know_ok ok_v9 (rows_cons (t503_WR1 a) (rows_cons (t503_SM1 d) (rows_nil _)))))
        (lk_cons (cons_ok (okA7_WR0 a k) (t7_WR0 a k) rfl (cons_ok (okA7_WR1 a) (t7_WR1 a) rfl (know_ok (okA7_SM1 ) (rows_cons (t7_SM1 ) (rows_nil _))))) tok_v6))))
theorem kL2 (a k w : Int) (d : BitVec 32) (hx : X w = 2) (a1 : -2147483648 ≤ a) (a2 : a ≤ 2147483647) (k1 : -2147483648 ≤ k) (k2 : k ≤ 2147483647) : TOk Kn Tryz.prog (lk (L2 a k w d)) :=
  lk_cons ok_kn (lk_cons (cons_ok (okA5_WR0 a k a1 a2 k1 k2) (t5_WR0 a k a1 a2 k1 k2) rfl (know_ok (okA5_WR1 a a1 a2) (rows_cons (t5_WR1 a k a1 a2 k1 k2) (rows_nil _))))
    (lk_cons (know_ok ok_v20 (rows_cons (t5_SM2 (X w) k hx k1 k2) (rows_nil _)))
      (lk_cons (cons_ok (okA503_WR0 a k) (t503_WR0 a k) rfl (know_ok ok_v9 (rows_cons (t503_WR1 a) (rows_cons (t503_SM2 d) (rows_nil _)))))
        (lk_cons (cons_ok (okA7_WR0 a k) (t7_WR0 a k) rfl (cons_ok (okA7_WR1 a) (t7_WR1 a) rfl (know_ok (okA7_SM2 ) (rows_cons (t7_SM2 ) (rows_nil _))))) tok_v6))))
theorem kL3 (a k w : Int) (d : BitVec 32) (hx : X w = 3) (a1 : -2147483648 ≤ a) (a2 : a ≤ 2147483647) (k1 : -2147483648 ≤ k) (k2 : k ≤ 2147483647) : TOk Kn Tryz.prog (lk (L3 a k w d)) :=
  lk_cons ok_kn (lk_cons (cons_ok (okA5_WR0 a k a1 a2 k1 k2) (t5_WR0 a k a1 a2 k1 k2) rfl (know_ok (okA5_WR1 a a1 a2) (rows_cons (t5_WR1 a k a1 a2 k1 k2) (rows_nil _))))
    (lk_cons (know_ok (okA5_SM3 k k1 k2) (rows_cons (t5_SM3 (X w) k hx k1 k2) (rows_nil _)))
      (lk_cons (cons_ok (okA503_WR0 a k) (t503_WR0 a k) rfl (know_ok ok_v9 (rows_cons (t503_WR1 a) (rows_cons (t503_SM3 k d) (rows_nil _)))))
        (lk_cons (cons_ok (okA7_WR0 a k) (t7_WR0 a k) rfl (cons_ok (okA7_WR1 a) (t7_WR1 a) rfl (know_ok (okA7_SM3 k) (rows_cons (t7_SM3 k) (rows_nil _))))) tok_v6))))
theorem cL0n (a k w : Int) (d : BitVec 32) (hm : w.tmod 4 ≠ 1) : allTrue [!(false), !(false), !(false), !(!w.tmod (4 : Int) != (1 : Int)), !(!w.tmod (4 : Int) != (1 : Int)), !(!w.tmod (4 : Int) != (1 : Int)), !(!w.tmod (4 : Int) != (1 : Int)), w.tmod (4 : Int) != (1 : Int)] = true := at1 rfl (at1 rfl (at1 rfl (at1 (by have hm2 : (w.tmod 4 != 1) = true := (by simpa using hm); first | exact hm2 | (rw [hm2]; rfl) | (simp [hm2]) | (simp [hm])) (at1 (by have hm2 : (w.tmod 4 != 1) = true := (by simpa using hm); first | exact hm2 | (rw [hm2]; rfl) | (simp [hm2]) | (simp [hm])) (at1 (by have hm2 : (w.tmod 4 != 1) = true := (by simpa using hm); first | exact hm2 | (rw [hm2]; rfl) | (simp [hm2]) | (simp [hm])) (at1 (by have hm2 : (w.tmod 4 != 1) = true := (by simpa using hm); first | exact hm2 | (rw [hm2]; rfl) | (simp [hm2]) | (simp [hm])) (at1 (by have hm2 : (w.tmod 4 != 1) = true := (by simpa using hm); first | exact hm2 | (rw [hm2]; rfl) | (simp [hm2]) | (simp [hm])) (at0))))))))
theorem eL0n (a k w : Int) (d : BitVec 32) (hm : w.tmod 4 ≠ 1) : (ev604 (L0 a k w d) a k w d).run = some ((.c (.y 17575 (.v (.bool true)))), []) := run_ofQ [false, false, false, false, false, false, false, true] (by kernel_rfl) (by kernel_rfl) (cL0n a k w d hm)
theorem cL1n (a k w : Int) (d : BitVec 32) (hm : w.tmod 4 ≠ 1) : allTrue [!(false), !(false), !(false), !(!w.tmod (4 : Int) != (1 : Int)), !(!w.tmod (4 : Int) != (1 : Int)), !(!w.tmod (4 : Int) != (1 : Int)), !(!w.tmod (4 : Int) != (1 : Int)), w.tmod (4 : Int) != (1 : Int)] = true := at1 rfl (at1 rfl (at1 rfl (at1 (by have hm2 : (w.tmod 4 != 1) = true := (by simpa using hm); first | exact hm2 | (rw [hm2]; rfl) | (simp [hm2]) | (simp [hm])) (at1 (by have hm2 : (w.tmod 4 != 1) = true := (by simpa using hm); first | exact hm2 | (rw [hm2]; rfl) | (simp [hm2]) | (simp [hm])) (at1 (by have hm2 : (w.tmod 4 != 1) = true := (by simpa using hm); first | exact hm2 | (rw [hm2]; rfl) | (simp [hm2]) | (simp [hm])) (at1 (by have hm2 : (w.tmod 4 != 1) = true := (by simpa using hm); first | exact hm2 | (rw [hm2]; rfl) | (simp [hm2]) | (simp [hm])) (at1 (by have hm2 : (w.tmod 4 != 1) = true := (by simpa using hm); first | exact hm2 | (rw [hm2]; rfl) | (simp [hm2]) | (simp [hm])) (at0))))))))
theorem eL1n (a k w : Int) (d : BitVec 32) (hm : w.tmod 4 ≠ 1) : (ev604 (L1 a k w d) a k w d).run = some ((.c (.y 17575 (.v (.bool true)))), []) := run_ofQ [false, false, false, false, false, false, false, true] (by kernel_rfl) (by kernel_rfl) (cL1n a k w d hm)
theorem cL1y (a k w : Int) (d : BitVec 32) (hm : w.tmod 4 = 1) : allTrue [!(false), !(false), !(false), !w.tmod (4 : Int) != (1 : Int), !w.tmod (4 : Int) != (1 : Int), !w.tmod (4 : Int) != (1 : Int), !w.tmod (4 : Int) != (1 : Int), eqPV (PV.v (Value.bool (BitVec.setWidth (64 : Nat) d == BitVec.setWidth (64 : Nat) d))) (PV.v (Value.bool true))] = true := at1 rfl (at1 rfl (at1 rfl (at1 (by have hm2 : (w.tmod 4 != 1) = false := (by simp [hm]); first | exact hm2 | (rw [hm2]; rfl) | (simp [hm2]) | (simp [hm])) (at1 (by have hm2 : (w.tmod 4 != 1) = false := (by simp [hm]); first | exact hm2 | (rw [hm2]; rfl) | (simp [hm2]) | (simp [hm])) (at1 (by have hm2 : (w.tmod 4 != 1) = false := (by simp [hm]); first | exact hm2 | (rw [hm2]; rfl) | (simp [hm2]) | (simp [hm])) (at1 (by have hm2 : (w.tmod 4 != 1) = false := (by simp [hm]); first | exact hm2 | (rw [hm2]; rfl) | (simp [hm2]) | (simp [hm])) (at1 (by first | exact pw rfl | exact pw (by simp) | exact pin rfl | exact pbt (beq_self_eq_true _)) (at0))))))))
theorem eL1y (a k w : Int) (d : BitVec 32) (hm : w.tmod 4 = 1) : (ev604 (L1 a k w d) a k w d).run = some ((.c (.y 17575 (.v (.bool (bif (w.tmod 4 != 1) then true else true))))), []) := run_ofQ [false, false, false, true, true, true, true, true] (by kernel_rfl) (by kernel_rfl) (cL1y a k w d hm)
theorem cL2n (a k w : Int) (d : BitVec 32) (hm : w.tmod 4 ≠ 1) : allTrue [!(false), !(false), !(false), !(!w.tmod (4 : Int) != (1 : Int)), !(!w.tmod (4 : Int) != (1 : Int)), !(!w.tmod (4 : Int) != (1 : Int)), !(!w.tmod (4 : Int) != (1 : Int)), w.tmod (4 : Int) != (1 : Int)] = true := at1 rfl (at1 rfl (at1 rfl (at1 (by have hm2 : (w.tmod 4 != 1) = true := (by simpa using hm); first | exact hm2 | (rw [hm2]; rfl) | (simp [hm2]) | (simp [hm])) (at1 (by have hm2 : (w.tmod 4 != 1) = true := (by simpa using hm); first | exact hm2 | (rw [hm2]; rfl) | (simp [hm2]) | (simp [hm])) (at1 (by have hm2 : (w.tmod 4 != 1) = true := (by simpa using hm); first | exact hm2 | (rw [hm2]; rfl) | (simp [hm2]) | (simp [hm])) (at1 (by have hm2 : (w.tmod 4 != 1) = true := (by simpa using hm); first | exact hm2 | (rw [hm2]; rfl) | (simp [hm2]) | (simp [hm])) (at1 (by have hm2 : (w.tmod 4 != 1) = true := (by simpa using hm); first | exact hm2 | (rw [hm2]; rfl) | (simp [hm2]) | (simp [hm])) (at0))))))))
theorem eL2n (a k w : Int) (d : BitVec 32) (hm : w.tmod 4 ≠ 1) : (ev604 (L2 a k w d) a k w d).run = some ((.c (.y 17575 (.v (.bool true)))), []) := run_ofQ [false, false, false, false, false, false, false, true] (by kernel_rfl) (by kernel_rfl) (cL2n a k w d hm)
theorem cL3n (a k w : Int) (d : BitVec 32) (hm : w.tmod 4 ≠ 1) : allTrue [!(false), !(false), !(false), !(!w.tmod (4 : Int) != (1 : Int)), !(!w.tmod (4 : Int) != (1 : Int)), !(!w.tmod (4 : Int) != (1 : Int)), !(!w.tmod (4 : Int) != (1 : Int)), w.tmod (4 : Int) != (1 : Int)] = true := at1 rfl (at1 rfl (at1 rfl (at1 (by have hm2 : (w.tmod 4 != 1) = true := (by simpa using hm); first | exact hm2 | (rw [hm2]; rfl) | (simp [hm2]) | (simp [hm])) (at1 (by have hm2 : (w.tmod 4 != 1) = true := (by simpa using hm); first | exact hm2 | (rw [hm2]; rfl) | (simp [hm2]) | (simp [hm])) (at1 (by have hm2 : (w.tmod 4 != 1) = true := (by simpa using hm); first | exact hm2 | (rw [hm2]; rfl) | (simp [hm2]) | (simp [hm])) (at1 (by have hm2 : (w.tmod 4 != 1) = true := (by simpa using hm); first | exact hm2 | (rw [hm2]; rfl) | (simp [hm2]) | (simp [hm])) (at1 (by have hm2 : (w.tmod 4 != 1) = true := (by simpa using hm); first | exact hm2 | (rw [hm2]; rfl) | (simp [hm2]) | (simp [hm])) (at0))))))))
theorem eL3n (a k w : Int) (d : BitVec 32) (hm : w.tmod 4 ≠ 1) : (ev604 (L3 a k w d) a k w d).run = some ((.c (.y 17575 (.v (.bool true)))), []) := run_ofQ [false, false, false, false, false, false, false, true] (by kernel_rfl) (by kernel_rfl) (cL3n a k w d hm)
theorem ev_law (a k w : Int) (d : BitVec 32) (ha : -2147483648 ≤ a ∧ a ≤ 2147483647) (hk : -2147483648 ≤ k ∧ k ≤ 2147483647) : ∃ aa : List AV, aa.map plA = [.c (.v (.int .i32 a)), .c (.v (.int .i32 k)), .c (.v (.int .i64 w)), .c (.w .u32 d)] ∧ ∃ T, TOk Kn Tryz.prog T ∧ ∃ L, LOk Tryz.prog T Tryz.f6.ntmps 0 400 L c604 ∧ ∃ av, plA av = AV.b true ∧ isPan av = none ∧ (evalFnL Tryz.prog T 400 L Tryz.f6 c604 [] aa []).run = some (av, []) := by
  have fin : ∀ {l : List (Nat × Summ)} {av : AV}, TOk Kn Tryz.prog (lk l) → plA av = AV.b true → isPan av = none → (ev604 l a k w d).run = some (av, []) → ∃ aa : List AV, aa.map plA = [.c (.v (.int .i32 a)), .c (.v (.int .i32 k)), .c (.v (.int .i64 w)), .c (.w .u32 d)] ∧ ∃ T, TOk Kn Tryz.prog T ∧ ∃ L, LOk Tryz.prog T Tryz.f6.ntmps 0 400 L c604 ∧ ∃ av, plA av = AV.b true ∧ isPan av = none ∧ (evalFnL Tryz.prog T 400 L Tryz.f6 c604 [] aa []).run = some (av, []) :=
    fun h1 h2 h3 h4 => ⟨as604 a k w d, rfl, _, tok_cl h1, noL, noL_ok _ _ _ _ _ _, _, h2, h3, h4⟩
  obtain ⟨a1, a2⟩ := ha
  obtain ⟨k1, k2⟩ := hk
  have b1 : w.tmod 4 < 4 := Int.tmod_lt_of_pos w (by decide)
  have b2 : -4 < w.tmod 4 := by
    have := Int.lt_tmod_of_pos w (show (0 : Int) < 4 by decide)
    omega
  rcases (by omega : w.tmod 4 = -3 ∨ w.tmod 4 = -2 ∨ w.tmod 4 = -1 ∨ w.tmod 4 = 0 ∨ w.tmod 4 = 1 ∨ w.tmod 4 = 2 ∨ w.tmod 4 = 3) with h | h | h | h | h | h | h
  · exact fin (kL1 a k w d (by unfold X; rw [h]; rfl) a1 a2 k1 k2) rfl rfl (eL1n a k w d (by rw [h]; decide))
  · exact fin (kL2 a k w d (by unfold X; rw [h]; rfl) a1 a2 k1 k2) rfl rfl (eL2n a k w d (by rw [h]; decide))
  · exact fin (kL3 a k w d (by unfold X; rw [h]; rfl) a1 a2 k1 k2) rfl rfl (eL3n a k w d (by rw [h]; decide))
  · exact fin (kL0 a k w d (by unfold X; rw [h]; rfl) a1 a2 k1 k2) rfl rfl (eL0n a k w d (by rw [h]; decide))
  · exact fin (kL1 a k w d (by unfold X; rw [h]; rfl) a1 a2 k1 k2) (by show AV.c (.v (.bool (bif (w.tmod 4 != 1) then true else true))) = _; cases (w.tmod 4 != 1) <;> rfl) rfl (eL1y a k w d h)
  · exact fin (kL2 a k w d (by unfold X; rw [h]; rfl) a1 a2 k1 k2) rfl rfl (eL2n a k w d (by rw [h]; decide))
  · exact fin (kL3 a k w d (by unfold X; rw [h]; rfl) a1 a2 k1 k2) rfl rfl (eL3n a k w d (by rw [h]; decide))
end Go.Proofs.YtfbldjaepenfpaaGreatDoor
