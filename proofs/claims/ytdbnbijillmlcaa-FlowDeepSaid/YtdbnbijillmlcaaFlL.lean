/-
  The law of how deep calls go (written by our own gen_fll.py).
-/
import Derived.Test.YtdbnbijillmlcaaFlD
namespace Go.Proofs.Ytdbnbijillmlcaa.fld
open Go Go.Sy Go.Sz Go.In Go.Fl Go.Proofs.Ytdbnbijillmlcaa
set_option linter.unusedVariables false
set_option linter.unusedSimpArgs false
set_option linter.constructorNameAsVariable false
set_option maxRecDepth 100000

theorem ok_Back : SummOk Kn Try.prog 12 (sumE [.dp insT] false Try.prog (lk L_depth) 30 Try.f12 (Try.f12.body.getD .skip) [(0, partsT)]) := sumE_ok tok_depth Try.checked.mixed Try.func12 (by kernel_rfl) (by rfl) 30 [(0, partsT)]
noncomputable def L_Back : List (Nat × Summ) := (12, (sumE [.dp insT] false Try.prog (lk L_depth) 30 Try.f12 (Try.f12.body.getD .skip) [(0, partsT)])) :: L_depth
theorem tok_Back : TOk Kn Try.prog (lk L_Back) := lk_cons ok_Back tok_depth

def ea_known1 : Unit → denAs [] := fun _ => ()
def eo_known1 : Unit → denObs [] := fun _ => ()
noncomputable def E_known1 : Unit → Tree (AV × List Ob) := fun _ => 
Tree.ite (decC ((1 : Nat) ≤ (1000 : Nat))) (Tree.ite (decC ((0 : Int) ≤ (0 : Int) ∧ (0 : Int) < (1 : Int))) (Tree.ite (decC ((0 : Nat) < (1 : Nat) ∧ (1 : Nat) ≤ (1000000 : Nat))) (Tree.ite (decC ((2 : Nat) ≤ (1000 : Nat))) (Tree.ret (AV.p (Part.one (Cell.v (Value.bool true))), [])) Tree.fail) Tree.fail) Tree.fail) Tree.fail
noncomputable def F_known1 : denAs [] → denObs [] → Tree (AV × List Ob) := fun x y => match x, y with
  | (), () => .ret (AV.b true, [])
theorem ev_known1 : ∀ a, (evalFnL Try.prog (lk L_Back) 40 noL Try.f5 (Try.f5.body.getD .skip) [] (encAs [] (ea_known1 a)) (encOs [] (eo_known1 a))).run = (E_known1 a).run := by
  rintro ⟨⟩
  kernel_rfl
theorem fe_known1 : ∀ a y, (F_known1 (ea_known1 a) (eo_known1 a)).run = some y → (E_known1 a).run = some y := by
  rintro _ y h
  rw [← h]
  dsimp only [E_known1]
  exact (goT (decP (by decide))).trans ((goT (decP (by decide))).trans ((goT (decP (by decide))).trans ((goT (decP (by decide))).trans rfl)))
theorem ok_known1 : SummOk Kn Try.prog 5 (sumT [] false [] [] F_known1) := sumT_view tok_Back Try.checked.mixed Try.func5 (by kernel_rfl) (by rfl) 40 [] ea_known1 eo_known1
  (by rintro ⟨⟩ ⟨⟩; exact ⟨(), rfl, rfl⟩) noL 0 (by rintro ⟨⟩; rfl) (noL_ok _ _ _ _ _ _) E_known1 ev_known1 fe_known1
noncomputable def L_known1 : List (Nat × Summ) := (5, (sumT [] false [] [] F_known1)) :: L_Back
theorem tok_known1 : TOk Kn Try.prog (lk L_known1) := lk_cons ok_known1 tok_Back

theorem calls_len : ∀ n, (callsN n).length = 2 * n
  | 0 => rfl
  | n + 1 => by simp only [callsN, List.length_cons, calls_len n]; omega
theorem deep_len (m : Nat) (h : 1 ≤ m) : (Fl.deepL m).length = 2 * m := by
  unfold Fl.deepL
  rw [List.length_append, calls_len]; simp only [List.length_cons, List.length_nil]; omega
theorem deep_val (m : Nat) (h1 : 1 ≤ m) (h2 : m ≤ 20) : (m ≤ 8 → dV (Fl.deepL m) = (m : Int) ∧ eV (Fl.deepL m) = 0) ∧ (8 < m → eV (Fl.deepL m) = 151) := by
  have hl := deep_len m h1
  have hg : (Fl.deepL m).getD ((Fl.deepL m).length - 2) noIns = moveI := by
    rw [hl, List.getD_eq_getElem?_getD]
    unfold Fl.deepL
    rw [List.getElem?_append_right (by rw [calls_len]; omega), calls_len, show 2 * m - 2 - 2 * (m - 1) = 0 by omega]; rfl
  have hc : lastC (Fl.deepL m) = decide (m ≤ 8) := by
    unfold lastC
    rw [hg, hl, show (moveI.1 == 183#8) = true from rfl, Bool.true_and]
    by_cases h : m ≤ 8
    · rw [decide_eq_true h, decide_eq_true (by omega)]
    · rw [decide_eq_false h, decide_eq_false (by omega)]
  unfold dV eV
  rw [hc, hl]
  refine ⟨fun h => ?_, fun h => ?_⟩
  · rw [decide_eq_true h, show 2 * m / 2 = m by omega]; exact ⟨rfl, rfl⟩
  · rw [decide_eq_false (by omega)]; rfl
theorem cyc_eV (m t : Nat) (h : 1 ≤ m) : eV (cycL m (2 * (t + 1))) = 151 := by
  have hl : (cycL m (2 * (t + 1))).length = 2 * m := by
    unfold cycL
    rw [List.length_append, calls_len]; simp only [List.length_cons, List.length_nil]; omega
  have hc : lastC (cycL m (2 * (t + 1))) = false := by
    unfold lastC
    rw [hl, List.getD_eq_getElem?_getD]
    unfold cycL
    rw [List.getElem?_append_right (by rw [calls_len]; omega), calls_len, show 2 * m - 2 - 2 * (m - 1) = 0 by omega]; rfl
  unfold eV
  rw [hc]; rfl
theorem set_cyc (m : Nat) (t : Int) (h1 : 2 ≤ m) (h2 : m ≤ 20) : ∃ t', t' < m - 1 ∧ List.set (Fl.deepL m) (2 * ((m : Int) - 1)).toNat (BitVec.ofInt 8 133, BitVec.ofInt 8 0, BitVec.ofInt 8 1, (0 : Int), IntKind.i32.wrap (IntKind.i64.wrap (IntKind.i64.wrap (IntKind.i64.wrap (2 * IntKind.i64.wrap (1 + (IntKind.i64.wrap (IntKind.i64.wrap (t.tmod ((m : Int) - 1) + m) - 1)).tmod ((m : Int) - 1))) - 2 * ((m : Int) - 1)) - 1)), (List.getD (Fl.deepL m) (2 * ((m : Int) - 1)).toNat noIns).snd.snd.snd.snd.snd) = cycL m (2 * (t' + 1)) := by
  have a1 := Int.tmod_lt_of_pos t (show (0 : Int) < (m : Int) - 1 by omega)
  have a2 : -((m : Int) - 1) < t.tmod ((m : Int) - 1) := Int.lt_tmod_of_pos t (by omega)
  rw [wrap64 (n := t.tmod ((m : Int) - 1) + m) (by omega) (by omega), wrap64 (n := t.tmod ((m : Int) - 1) + m - 1) (by omega) (by omega)]
  have b1 := Int.tmod_lt_of_pos (t.tmod ((m : Int) - 1) + m - 1) (show (0 : Int) < (m : Int) - 1 by omega)
  have b2 : 0 ≤ (t.tmod ((m : Int) - 1) + m - 1).tmod ((m : Int) - 1) := Int.tmod_nonneg _ (by omega)
  generalize (t.tmod ((m : Int) - 1) + m - 1).tmod ((m : Int) - 1) = u at b1 b2 ⊢
  rw [wrap64 (n := 1 + u) (by omega) (by omega), wrap64 (n := 2 * (1 + u)) (by omega) (by omega), wrap64 (n := 2 * (1 + u) - 2 * ((m : Int) - 1)) (by omega) (by omega), wrap64 (n := 2 * (1 + u) - 2 * ((m : Int) - 1) - 1) (by omega) (by omega)]
  have w32 : IntKind.i32.wrap (2 * (1 + u) - 2 * ((m : Int) - 1) - 1) = 2 * (1 + u) - 2 * ((m : Int) - 1) - 1 := by
    rw [IntKind.wrap_i32]; omega
  rw [w32]
  refine ⟨u.toNat, by omega, ?_⟩
  unfold Fl.deepL cycL
  rw [List.set_append_right _ _ (by rw [calls_len]; omega), calls_len, show (2 * ((m : Int) - 1)).toNat - 2 * (m - 1) = 0 by omega]
  have e : (2 * (1 + u) - 2 * ((m : Int) - 1) - 1) = (((2 * (u.toNat + 1) : Nat) : Int) - (2 * m - 2 : Nat) - 1) := by omega
  rw [e]
  rfl
noncomputable def E_law : Int × Int → Tree (AV × List Ob) := fun ⟨n, t⟩ => 
Tree.ite (!decide (n < (1 : Int))) (Tree.ite (decide ((20 : Int) < n)) (Tree.ret (AV.p (Part.one (Cell.v (Value.bool true))), [])) (Tree.ite (inD n (0 : Int)) (Tree.ite (decC (DepOk (Fl.deepL n.toNat))) (Tree.ite (decide ((8 : Int) < n)) (Tree.ite (!eV (Fl.deepL n.toNat) != (151 : Int)) (Tree.ite (decide (n ≤ (8 : Int))) (Tree.ite (!eV (Fl.deepL n.toNat) != (0 : Int)) (Tree.ite (dV (Fl.deepL n.toNat) != n) (Tree.ret (AV.p (Part.one (Cell.v (Value.bool false))), [])) (Tree.ite (decide (n < (2 : Int))) (Tree.ret (AV.p (Part.one (Cell.v (Value.bool true))), [])) (Tree.ite (decide (IntKind.i64.wrap (n - (1 : Int)) = (0 : Int))) Tree.fail (Tree.ite (decide (IntKind.i64.wrap (n - (1 : Int)) = (0 : Int))) Tree.fail (Tree.ite (decide ((0 : Int) ≤ IntKind.i64.wrap ((2 : Int) * IntKind.i64.wrap (n - (1 : Int)))) && decide (IntKind.i64.wrap ((2 : Int) * IntKind.i64.wrap (n - (1 : Int))) < (↑(List.length (Fl.deepL n.toNat)) : Int))) (Tree.ite (decC (DepOk (List.set (Fl.deepL n.toNat) (IntKind.i64.wrap ((2 : Int) * IntKind.i64.wrap (n - (1 : Int)))).toNat (BitVec.ofInt (8 : Nat) (133 : Int), BitVec.ofInt (8 : Nat) (0 : Int), BitVec.ofInt (8 : Nat) (1 : Int), (0 : Int), IntKind.i32.wrap (IntKind.i64.wrap (IntKind.i64.wrap (IntKind.i64.wrap ((2 : Int) * IntKind.i64.wrap ((1 : Int) + (IntKind.i64.wrap (IntKind.i64.wrap (t.tmod (IntKind.i64.wrap (n - (1 : Int))) + n) - (1 : Int))).tmod (IntKind.i64.wrap (n - (1 : Int))))) - IntKind.i64.wrap ((2 : Int) * IntKind.i64.wrap (n - (1 : Int)))) - (1 : Int))), (List.getD (Fl.deepL n.toNat) (IntKind.i64.wrap ((2 : Int) * IntKind.i64.wrap (n - (1 : Int)))).toNat noIns).snd.snd.snd.snd.snd)))) (Tree.ret (AV.p (Part.one (Cell.v (Value.bool (eV (List.set (Fl.deepL n.toNat) (IntKind.i64.wrap ((2 : Int) * IntKind.i64.wrap (n - (1 : Int)))).toNat (BitVec.ofInt (8 : Nat) (133 : Int), BitVec.ofInt (8 : Nat) (0 : Int), BitVec.ofInt (8 : Nat) (1 : Int), (0 : Int), IntKind.i32.wrap (IntKind.i64.wrap (IntKind.i64.wrap (IntKind.i64.wrap ((2 : Int) * IntKind.i64.wrap ((1 : Int) + (IntKind.i64.wrap (IntKind.i64.wrap (t.tmod (IntKind.i64.wrap (n - (1 : Int))) + n) - (1 : Int))).tmod (IntKind.i64.wrap (n - (1 : Int))))) - IntKind.i64.wrap ((2 : Int) * IntKind.i64.wrap (n - (1 : Int)))) - (1 : Int))), (List.getD (Fl.deepL n.toNat) (IntKind.i64.wrap ((2 : Int) * IntKind.i64.wrap (n - (1 : Int)))).toNat noIns).snd.snd.snd.snd.snd)) == (151 : Int))))), [])) Tree.fail) Tree.fail))))) (Tree.ret (AV.p (Part.one (Cell.v (Value.bool false))), []))) (Tree.ite (decide (n < (2 : Int))) (Tree.ret (AV.p (Part.one (Cell.v (Value.bool true))), [])) (Tree.ite (decide (IntKind.i64.wrap (n - (1 : Int)) = (0 : Int))) Tree.fail (Tree.ite (decide (IntKind.i64.wrap (n - (1 : Int)) = (0 : Int))) Tree.fail (Tree.ite (decide ((0 : Int) ≤ IntKind.i64.wrap ((2 : Int) * IntKind.i64.wrap (n - (1 : Int)))) && decide (IntKind.i64.wrap ((2 : Int) * IntKind.i64.wrap (n - (1 : Int))) < (↑(List.length (Fl.deepL n.toNat)) : Int))) (Tree.ite (decC (DepOk (List.set (Fl.deepL n.toNat) (IntKind.i64.wrap ((2 : Int) * IntKind.i64.wrap (n - (1 : Int)))).toNat (BitVec.ofInt (8 : Nat) (133 : Int), BitVec.ofInt (8 : Nat) (0 : Int), BitVec.ofInt (8 : Nat) (1 : Int), (0 : Int), IntKind.i32.wrap (IntKind.i64.wrap (IntKind.i64.wrap (IntKind.i64.wrap ((2 : Int) * IntKind.i64.wrap ((1 : Int) + (IntKind.i64.wrap (IntKind.i64.wrap (t.tmod (IntKind.i64.wrap (n - (1 : Int))) + n) - (1 : Int))).tmod (IntKind.i64.wrap (n - (1 : Int))))) - IntKind.i64.wrap ((2 : Int) * IntKind.i64.wrap (n - (1 : Int)))) - (1 : Int))), (List.getD (Fl.deepL n.toNat) (IntKind.i64.wrap ((2 : Int) * IntKind.i64.wrap (n - (1 : Int)))).toNat noIns).snd.snd.snd.snd.snd)))) (Tree.ret (AV.p (Part.one (Cell.v (Value.bool (eV (List.set (Fl.deepL n.toNat) (IntKind.i64.wrap ((2 : Int) * IntKind.i64.wrap (n - (1 : Int)))).toNat (BitVec.ofInt (8 : Nat) (133 : Int), BitVec.ofInt (8 : Nat) (0 : Int), BitVec.ofInt (8 : Nat) (1 : Int), (0 : Int), IntKind.i32.wrap (IntKind.i64.wrap (IntKind.i64.wrap (IntKind.i64.wrap ((2 : Int) * IntKind.i64.wrap ((1 : Int) + (IntKind.i64.wrap (IntKind.i64.wrap (t.tmod (IntKind.i64.wrap (n - (1 : Int))) + n) - (1 : Int))).tmod (IntKind.i64.wrap (n - (1 : Int))))) - IntKind.i64.wrap ((2 : Int) * IntKind.i64.wrap (n - (1 : Int)))) - (1 : Int))), (List.getD (Fl.deepL n.toNat) (IntKind.i64.wrap ((2 : Int) * IntKind.i64.wrap (n - (1 : Int)))).toNat noIns).snd.snd.snd.snd.snd)) == (151 : Int))))), [])) Tree.fail) Tree.fail))))) (Tree.ret (AV.p (Part.one (Cell.v (Value.bool false))), []))) (Tree.ite (decide (n ≤ (8 : Int))) (Tree.ite (!eV (Fl.deepL n.toNat) != (0 : Int)) (Tree.ite (dV (Fl.deepL n.toNat) != n) (Tree.ret (AV.p (Part.one (Cell.v (Value.bool false))), [])) (Tree.ite (decide (n < (2 : Int))) (Tree.ret (AV.p (Part.one (Cell.v (Value.bool true))), [])) (Tree.ite (decide (IntKind.i64.wrap (n - (1 : Int)) = (0 : Int))) Tree.fail (Tree.ite (decide (IntKind.i64.wrap (n - (1 : Int)) = (0 : Int))) Tree.fail (Tree.ite (decide ((0 : Int) ≤ IntKind.i64.wrap ((2 : Int) * IntKind.i64.wrap (n - (1 : Int)))) && decide (IntKind.i64.wrap ((2 : Int) * IntKind.i64.wrap (n - (1 : Int))) < (↑(List.length (Fl.deepL n.toNat)) : Int))) (Tree.ite (decC (DepOk (List.set (Fl.deepL n.toNat) (IntKind.i64.wrap ((2 : Int) * IntKind.i64.wrap (n - (1 : Int)))).toNat (BitVec.ofInt (8 : Nat) (133 : Int), BitVec.ofInt (8 : Nat) (0 : Int), BitVec.ofInt (8 : Nat) (1 : Int), (0 : Int), IntKind.i32.wrap (IntKind.i64.wrap (IntKind.i64.wrap (IntKind.i64.wrap ((2 : Int) * IntKind.i64.wrap ((1 : Int) + (IntKind.i64.wrap (IntKind.i64.wrap (t.tmod (IntKind.i64.wrap (n - (1 : Int))) + n) - (1 : Int))).tmod (IntKind.i64.wrap (n - (1 : Int))))) - IntKind.i64.wrap ((2 : Int) * IntKind.i64.wrap (n - (1 : Int)))) - (1 : Int))), (List.getD (Fl.deepL n.toNat) (IntKind.i64.wrap ((2 : Int) * IntKind.i64.wrap (n - (1 : Int)))).toNat noIns).snd.snd.snd.snd.snd)))) (Tree.ret (AV.p (Part.one (Cell.v (Value.bool (eV (List.set (Fl.deepL n.toNat) (IntKind.i64.wrap ((2 : Int) * IntKind.i64.wrap (n - (1 : Int)))).toNat (BitVec.ofInt (8 : Nat) (133 : Int), BitVec.ofInt (8 : Nat) (0 : Int), BitVec.ofInt (8 : Nat) (1 : Int), (0 : Int), IntKind.i32.wrap (IntKind.i64.wrap (IntKind.i64.wrap (IntKind.i64.wrap ((2 : Int) * IntKind.i64.wrap ((1 : Int) + (IntKind.i64.wrap (IntKind.i64.wrap (t.tmod (IntKind.i64.wrap (n - (1 : Int))) + n) - (1 : Int))).tmod (IntKind.i64.wrap (n - (1 : Int))))) - IntKind.i64.wrap ((2 : Int) * IntKind.i64.wrap (n - (1 : Int)))) - (1 : Int))), (List.getD (Fl.deepL n.toNat) (IntKind.i64.wrap ((2 : Int) * IntKind.i64.wrap (n - (1 : Int)))).toNat noIns).snd.snd.snd.snd.snd)) == (151 : Int))))), [])) Tree.fail) Tree.fail))))) (Tree.ret (AV.p (Part.one (Cell.v (Value.bool false))), []))) (Tree.ite (decide (n < (2 : Int))) (Tree.ret (AV.p (Part.one (Cell.v (Value.bool true))), [])) (Tree.ite (decide (IntKind.i64.wrap (n - (1 : Int)) = (0 : Int))) Tree.fail (Tree.ite (decide (IntKind.i64.wrap (n - (1 : Int)) = (0 : Int))) Tree.fail (Tree.ite (decide ((0 : Int) ≤ IntKind.i64.wrap ((2 : Int) * IntKind.i64.wrap (n - (1 : Int)))) && decide (IntKind.i64.wrap ((2 : Int) * IntKind.i64.wrap (n - (1 : Int))) < (↑(List.length (Fl.deepL n.toNat)) : Int))) (Tree.ite (decC (DepOk (List.set (Fl.deepL n.toNat) (IntKind.i64.wrap ((2 : Int) * IntKind.i64.wrap (n - (1 : Int)))).toNat (BitVec.ofInt (8 : Nat) (133 : Int), BitVec.ofInt (8 : Nat) (0 : Int), BitVec.ofInt (8 : Nat) (1 : Int), (0 : Int), IntKind.i32.wrap (IntKind.i64.wrap (IntKind.i64.wrap (IntKind.i64.wrap ((2 : Int) * IntKind.i64.wrap ((1 : Int) + (IntKind.i64.wrap (IntKind.i64.wrap (t.tmod (IntKind.i64.wrap (n - (1 : Int))) + n) - (1 : Int))).tmod (IntKind.i64.wrap (n - (1 : Int))))) - IntKind.i64.wrap ((2 : Int) * IntKind.i64.wrap (n - (1 : Int)))) - (1 : Int))), (List.getD (Fl.deepL n.toNat) (IntKind.i64.wrap ((2 : Int) * IntKind.i64.wrap (n - (1 : Int)))).toNat noIns).snd.snd.snd.snd.snd)))) (Tree.ret (AV.p (Part.one (Cell.v (Value.bool (eV (List.set (Fl.deepL n.toNat) (IntKind.i64.wrap ((2 : Int) * IntKind.i64.wrap (n - (1 : Int)))).toNat (BitVec.ofInt (8 : Nat) (133 : Int), BitVec.ofInt (8 : Nat) (0 : Int), BitVec.ofInt (8 : Nat) (1 : Int), (0 : Int), IntKind.i32.wrap (IntKind.i64.wrap (IntKind.i64.wrap (IntKind.i64.wrap ((2 : Int) * IntKind.i64.wrap ((1 : Int) + (IntKind.i64.wrap (IntKind.i64.wrap (t.tmod (IntKind.i64.wrap (n - (1 : Int))) + n) - (1 : Int))).tmod (IntKind.i64.wrap (n - (1 : Int))))) - IntKind.i64.wrap ((2 : Int) * IntKind.i64.wrap (n - (1 : Int)))) - (1 : Int))), (List.getD (Fl.deepL n.toNat) (IntKind.i64.wrap ((2 : Int) * IntKind.i64.wrap (n - (1 : Int)))).toNat noIns).snd.snd.snd.snd.snd)) == (151 : Int))))), [])) Tree.fail) Tree.fail)))))) Tree.fail) Tree.fail)) (Tree.ret (AV.p (Part.one (Cell.v (Value.bool true))), []))
theorem ev_law (n : Int) (t : Int) : (evalFnL Try.prog (lkL L_known1) 30 noL Try.f4 (Try.f4.body.getD .skip) [] [.p (.one (.v (.int .i64 n))), .p (.one (.v (.int .i64 t)))] []).run = (E_law (n, t)).run := by kernel_rfl

theorem true_law (n : Int) (t : Int) (hok : Go.Sz.okS [.one (.i .i64), .one (.i .i64)] (n, t, ())) : (E_law (n, t)).run = some (AV.b true, []) := by
  dsimp only [E_law]
  by_cases g1 : n < 1
  · exact (goF (show (!decide (n < 1)) = false by rw [decide_eq_true g1]; rfl)).trans rfl
  refine (goT (show (!decide (n < 1)) = true by rw [decide_eq_false g1]; rfl)).trans ?_
  by_cases g2 : 20 < n
  · exact (goTd g2).trans rfl
  refine (goFd g2).trans ?_
  obtain ⟨m, rfl⟩ := Int.eq_ofNat_of_zero_le (show (0 : Int) ≤ n by omega)
  have hm1 : 1 ≤ m := by omega
  have hm2 : m ≤ 20 := by omega
  have w1 : IntKind.i64.wrap ((m : Int) - 1) = (m : Int) - 1 := wrap64 (n := (m : Int) - 1) (by omega) (by omega)
  have w2 : IntKind.i64.wrap (2 * ((m : Int) - 1)) = 2 * ((m : Int) - 1) := wrap64 (n := 2 * ((m : Int) - 1)) (by omega) (by omega)
  refine (goT (show inD (m : Int) 0 = true by unfold inD; simp; omega)).trans ?_
  simp only [Int.toNat_natCast]
  refine (goT (decP ⟨m, hm1, hm2, .inl rfl⟩)).trans ?_
  obtain ⟨d1, d2⟩ := deep_val m hm1 hm2
  by_cases g4 : (8 : Int) < m
  · have e : eV (Fl.deepL m) = 151 := d2 (by omega)
    refine (goTd g4).trans ?_
    refine (goT (show (!(eV (Fl.deepL m) != 151)) = true by rw [e]; rfl)).trans ?_
    refine (goFd (show ¬ (m : Int) ≤ 8 by omega)).trans ?_
    by_cases g3 : (m : Int) < 2
    · exact (goTd g3).trans rfl
    refine (goFd g3).trans ?_
    simp only [w1, w2]
    refine (goFd (show ¬ ((m : Int) - 1 = 0) by omega)).trans ?_
    refine (goFd (show ¬ ((m : Int) - 1 = 0) by omega)).trans ?_
    refine (goTa ⟨by omega, by rw [deep_len m hm1]; omega⟩).trans ?_
    obtain ⟨t', ht', key⟩ := set_cyc m t (by omega) hm2
    rw [key]
    refine (goT (decP ⟨m, hm1, hm2, .inr ⟨by omega, t', ht', rfl⟩⟩)).trans ?_
    show some (AV.c (.v (.bool (eV (cycL m (2 * (t' + 1))) == 151))), []) = _
    rw [cyc_eV m t' (by omega)]; rfl
  · obtain ⟨e1, e2⟩ := d1 (by omega)
    refine (goFd g4).trans ?_
    refine (goTd (show (m : Int) ≤ 8 by omega)).trans ?_
    refine (goT (show (!(eV (Fl.deepL m) != 0)) = true by rw [e2]; rfl)).trans ?_
    refine (goF (show (dV (Fl.deepL m) != (m : Int)) = false by rw [e1]; simp)).trans ?_
    by_cases g3 : (m : Int) < 2
    · exact (goTd g3).trans rfl
    refine (goFd g3).trans ?_
    simp only [w1, w2]
    refine (goFd (show ¬ ((m : Int) - 1 = 0) by omega)).trans ?_
    refine (goFd (show ¬ ((m : Int) - 1 = 0) by omega)).trans ?_
    refine (goTa ⟨by omega, by rw [deep_len m hm1]; omega⟩).trans ?_
    obtain ⟨t', ht', key⟩ := set_cyc m t (by omega) hm2
    rw [key]
    refine (goT (decP ⟨m, hm1, hm2, .inr ⟨by omega, t', ht', rfl⟩⟩)).trans ?_
    show some (AV.c (.v (.bool (eV (cycL m (2 * (t' + 1))) == 151))), []) = _
    rw [cyc_eV m t' (by omega)]; rfl
theorem lifted_law (os : Os) (started : os.Started) : ∀ {H : Type} (enc : TypeId × Value → H), ReturnsInHanded {} Try.checked os 4 .any (Rows.flowDeepSpec.pre6 enc Try.prog Try.f4 [] false) (Rows.flowDeepSpec.post enc Try.prog Try.f4 false true false false) := by
  intro H enc
  refine law_lifted (by kernel_rfl) (by kernel_rfl) started (by kernel_rfl) Try.func4 rfl ?_ rfl (by kernel_rfl) ?_
    (ChangeSpec.witness6 (enc := enc) (C := Try.checked) false ⟨#[], #[.int .i64 0, .int .i64 0], []⟩ 8 (by kernel_rfl) (by kernel_rfl) (by kernel_rfl) (by kernel_rfl)) ?_
  · exact of_decide_eq_true (by kernel_rfl)
  · intro ds hds
    match ds, hds with
    | [d0, d1], _ => rfl
  · intro W base args ds before hval htrod
    refine law_data (K := Kn) (tok_lit tok_known1) Try.checked.mixed Try.func4 (by rfl) 30 4 (rc := []) (sh := [.one (.i .i64), .one (.i .i64)]) (by kernel_rfl) ?_ W trivial base args ds before hval htrod
    rintro ⟨n, t, ⟨⟩⟩ hok
    exact ⟨noL, (noL_ok _ _ _ _ _ _), (ev_law n t).trans (true_law n t hok)⟩
theorem over_law : Rows.flowDeepRow.holds Try.pinned (OpenSpec.ofChange Rows.flowDeepSpec) :=
  OpenClaim.holds_of_wide 4 Try.f4 rfl rfl rfl rfl rfl rfl rfl ⟨rfl, rfl, rfl, rfl, rfl⟩ rfl rfl rfl rfl rfl (by kernel_rfl) Try.func4 (by kernel_rfl)
    (of_decide_eq_true (by kernel_rfl)) (by unfold Func.isWrapper; first | (rw [if_pos (by decide +kernel)]; kernel_rfl) | (rw [if_neg (by decide +kernel)]; exact ⟨rfl, rfl⟩))
    (fun os started H enc _ => lifted_law os started enc)
theorem holds_law : Rows.FlowDeepSaid := over_law
end Go.Proofs.Ytdbnbijillmlcaa.fld
