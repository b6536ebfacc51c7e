/-
  The contracts of the package's checks (written by our own gen_ine.py).
-/
import Derived.Test.YtpocmhfgnpgikaaGreatDoorInD
import Derived.Test.YtpocmhfgnpgikaaGreatDoorInU
namespace Go.Proofs.YtpocmhfgnpgikaaGreatDoor
open Go Go.Sy Go.Sz Go.In Go.Proofs.YtpocmhfgnpgikaaGreatDoor
set_option linter.unusedVariables false
set_option linter.unusedSimpArgs false
set_option linter.constructorNameAsVariable false
set_option maxRecDepth 100000
theorem wrong_zero {l : Slots} {k : Nat} {b : Bools} (h : wrongI l k b = 0) : B_known (slotA l k).1 (slotA l k).2.1 (slotA l k).2.2.1 (slotA l k).2.2.2.1 (slotA l k).2.2.2.2.1 = true ∧ (namesB (slotA l k) = true → badTo l k b = false) ∧ ((opA l k == BitVec.ofInt 8 24) = true → wholeB l k = true) := by
  unfold wrongI wrongX at h
  change wrongS _ _ _ _ _ (opA l k == BitVec.ofInt 8 24) _ _ _ _ _ _ = 0 at h
  generalize B_known (slotA l k).1 (slotA l k).2.1 (slotA l k).2.2.1 (slotA l k).2.2.2.1 (slotA l k).2.2.2.2.1 = kn at *
  generalize badTo l k b = bt at *
  generalize namesB (slotA l k) = nm at *
  generalize wholeB l k = wh at *
  generalize (opA l k == BitVec.ofInt 8 24) = wd at *
  unfold wrongS at h
  cases kn
  · cases h
  · refine ⟨rfl, fun g => ?_, fun g => ?_⟩
    · subst g
      cases bt
      · rfl
      · exfalso
        simp only [cond_true] at h
        revert h; generalize ((BitVec.ofInt 8 10).ult (slotA l k).2.1 || (BitVec.ofInt 8 10).ult (slotA l k).2.2.1 || ((slotA l k).2.1 == BitVec.ofInt 8 10 && B_writes (slotA l k).1 (slotA l k).2.1 (slotA l k).2.2.1 (slotA l k).2.2.2.1 (slotA l k).2.2.2.2.1)) = c1; cases c1 <;> (try cases wd) <;> (try cases wh) <;> simp
    · subst g
      cases wh
      · exfalso
        simp only [cond_true] at h
        revert h; generalize ((BitVec.ofInt 8 10).ult (slotA l k).2.1 || (BitVec.ofInt 8 10).ult (slotA l k).2.2.1 || ((slotA l k).2.1 == BitVec.ofInt 8 10 && B_writes (slotA l k).1 (slotA l k).2.1 (slotA l k).2.2.1 (slotA l k).2.2.2.1 (slotA l k).2.2.2.2.1)) = c1; cases c1 <;> (try cases wd) <;> (try cases wh) <;> simp
      · rfl
theorem good_all {l : Slots} {b : Bools} (h : firstBad l b = none) {k : Nat} (hk : k < l.length) (hs : secA b k = false) : wrongI l k b = 0 := by
  have := scan_is (p := slotBad l b) (n := l.length) (k := 0)
  unfold firstBad at h
  rw [h] at this
  have := this k (Nat.zero_le _) (by omega)
  unfold slotBad at this
  rw [hs] at this
  simpa using this
theorem good_targets {l : Slots} {b : Bools} (h : firstBad l b = none) : Targets l b := fun k hk hs hn => by
  have := (wrong_zero (good_all h hk hs)).2.1 hn
  unfold badTo at this
  rw [Bool.or_eq_false_iff, Bool.or_eq_false_iff] at this
  obtain ⟨⟨h1, h2⟩, h3⟩ := this
  simp at h1 h2
  exact ⟨by omega, h2, h3⟩
theorem bad_some {l : Slots} {b : Bools} {k : Nat} (h : firstBad l b = some k) : k < l.length ∧ wrongI l k b ≠ 0 ∧ secA b k = false ∧ ∀ j, j < k → slotBad l b j = false := by
  have := scan_is (p := slotBad l b) (n := l.length) (k := 0)
  unfold firstBad at h
  rw [h] at this
  obtain ⟨h1, h2, h3, h4⟩ := this
  unfold slotBad at h3
  rw [Bool.and_eq_true] at h3
  exact ⟨by omega, by simpa using h3.2, by simpa using h3.1, fun j hj => h4 j (Nat.zero_le _) hj⟩
theorem secs0 (l : Slots) : secA (secs l) 0 = false := by
  unfold secA
  by_cases h : 0 < l.length
  · exact (secs_get h).trans rfl
  · rw [List.getD_eq_getElem?_getD, List.getElem?_eq_none (by rw [secs_len]; omega)]; rfl
noncomputable def chk (l : Slots) : Int × Int :=
  if l.length < 1 ∨ 4096 < l.length then (0, 10) else
  match firstBad l (secs l) with
  | some k => (k, wrongI l k (secs l))
  | none => if 64 < (froms l (secs l)).length then (0, 17) else
    match endedI l (secs l) (subsL l (secs l)) with
    | some z => (z, 16)
    | none => match leadsI l (secs l) (subsL l (secs l)) with
      | some k => (k, 15)
      | none => (0, 0)
noncomputable def sbs (l : Slots) : Parts × Int × Int :=
  if l.length < 1 ∨ 4096 < l.length then ([], 0, 10) else
  match firstBad l (secs l) with
  | some k => ([], k, wrongI l k (secs l))
  | none => if 64 < (froms l (secs l)).length then ([], 0, 17) else
    match endedI l (secs l) (subsL l (secs l)) with
    | some z => ([], z, 16)
    | none => (subsL l (secs l), 0, 0)
theorem lenOkS {l : Slots} (h : l.length ≤ 140737488355328) : lenOk l (secs l) := ⟨h, secs_len l⟩
def ea_chk : Slots → denAs [.c (.d insT)] := fun l => (l, ())
def eo_chk : Slots → denObs [] := fun l => ()
noncomputable def E_chk : Slots → Tree (AV × List Ob) := fun l => 
Tree.ite (decC (List.length l ≤ (140737488355328 : Nat))) (Tree.ite (decC (lenOk l (secs l))) (Tree.ite (decide (List.length l < (1 : Nat)) || decide ((4096 : Nat) < List.length l)) (Tree.ret (AV.t [Part.one (Cell.v (Value.int IntKind.i64 (0 : Int))), Part.one (Cell.v (Value.int IntKind.i64 (10 : Int)))], [])) (Tree.ite (badIs l (secs l)) (Tree.ite (wrongI l (badAt l (secs l)) (secs l) != (0 : Int)) (Tree.ret (AV.t [Part.one (Cell.v (Value.int IntKind.i64 (↑(badAt l (secs l)) : Int))), Part.one (Cell.v (Value.int IntKind.i64 (wrongI l (badAt l (secs l)) (secs l))))], [])) (Tree.ite (decC (lenOk l (secs l) ∧ List.length l ≤ (4096 : Nat))) (Tree.ite (decC (List.length (once (sorted (begL l (secs l) (List.length l)))) ≤ (1000000 : Nat) ∧ List.length l ≤ (1000000 : Nat))) (Tree.ite (decC (lenOk l (secs l) ∧ endsOk l (secs l) (splitL (List.length l) (once (sorted (begL l (secs l) (List.length l)))) (List.length (once (sorted (begL l (secs l) (List.length l)))))))) (Tree.ite (decide ((64 : Nat) < List.length (splitL (List.length l) (once (sorted (begL l (secs l) (List.length l)))) (List.length (once (sorted (begL l (secs l) (List.length l)))))))) (Tree.ret (AV.t [Part.one (Cell.v (Value.int IntKind.i64 (0 : Int))), Part.one (Cell.v (Value.int IntKind.i64 (17 : Int)))], [])) (Tree.ite (endIs l (secs l) (splitL (List.length l) (once (sorted (begL l (secs l) (List.length l)))) (List.length (once (sorted (begL l (secs l) (List.length l))))))) (Tree.ret (AV.t [Part.one (Cell.v (Value.int IntKind.i64 (endAt l (secs l) (splitL (List.length l) (once (sorted (begL l (secs l) (List.length l)))) (List.length (once (sorted (begL l (secs l) (List.length l))))))))), Part.one (Cell.v (Value.int IntKind.i64 (16 : Int)))], [])) (Tree.ite (decC (lenOk l (secs l) ∧ partsIn l (splitL (List.length l) (once (sorted (begL l (secs l) (List.length l)))) (List.length (once (sorted (begL l (secs l) (List.length l)))))))) (Tree.ite (ldsIs l (secs l) (splitL (List.length l) (once (sorted (begL l (secs l) (List.length l)))) (List.length (once (sorted (begL l (secs l) (List.length l))))))) (Tree.ret (AV.t [Part.one (Cell.v (Value.int IntKind.i64 (↑(ldsAt l (secs l) (splitL (List.length l) (once (sorted (begL l (secs l) (List.length l)))) (List.length (once (sorted (begL l (secs l) (List.length l))))))) : Int))), Part.one (Cell.v (Value.int IntKind.i64 (15 : Int)))], [])) (Tree.ret (AV.t [Part.one (Cell.v (Value.int IntKind.i64 (0 : Int))), Part.one (Cell.v (Value.int IntKind.i64 (0 : Int)))], []))) Tree.fail))) Tree.fail) Tree.fail) Tree.fail)) (Tree.ite (decC (lenOk l (secs l) ∧ List.length l ≤ (4096 : Nat))) (Tree.ite (decC (List.length (once (sorted (begL l (secs l) (List.length l)))) ≤ (1000000 : Nat) ∧ List.length l ≤ (1000000 : Nat))) (Tree.ite (decC (lenOk l (secs l) ∧ endsOk l (secs l) (splitL (List.length l) (once (sorted (begL l (secs l) (List.length l)))) (List.length (once (sorted (begL l (secs l) (List.length l)))))))) (Tree.ite (decide ((64 : Nat) < List.length (splitL (List.length l) (once (sorted (begL l (secs l) (List.length l)))) (List.length (once (sorted (begL l (secs l) (List.length l)))))))) (Tree.ret (AV.t [Part.one (Cell.v (Value.int IntKind.i64 (0 : Int))), Part.one (Cell.v (Value.int IntKind.i64 (17 : Int)))], [])) (Tree.ite (endIs l (secs l) (splitL (List.length l) (once (sorted (begL l (secs l) (List.length l)))) (List.length (once (sorted (begL l (secs l) (List.length l))))))) (Tree.ret (AV.t [Part.one (Cell.v (Value.int IntKind.i64 (endAt l (secs l) (splitL (List.length l) (once (sorted (begL l (secs l) (List.length l)))) (List.length (once (sorted (begL l (secs l) (List.length l))))))))), Part.one (Cell.v (Value.int IntKind.i64 (16 : Int)))], [])) (Tree.ite (decC (lenOk l (secs l) ∧ partsIn l (splitL (List.length l) (once (sorted (begL l (secs l) (List.length l)))) (List.length (once (sorted (begL l (secs l) (List.length l)))))))) (Tree.ite (ldsIs l (secs l) (splitL (List.length l) (once (sorted (begL l (secs l) (List.length l)))) (List.length (once (sorted (begL l (secs l) (List.length l))))))) (Tree.ret (AV.t [Part.one (Cell.v (Value.int IntKind.i64 (↑(ldsAt l (secs l) (splitL (List.length l) (once (sorted (begL l (secs l) (List.length l)))) (List.length (once (sorted (begL l (secs l) (List.length l))))))) : Int))), Part.one (Cell.v (Value.int IntKind.i64 (15 : Int)))], [])) (Tree.ret (AV.t [Part.one (Cell.v (Value.int IntKind.i64 (0 : Int))), Part.one (Cell.v (Value.int IntKind.i64 (0 : Int)))], []))) Tree.fail))) Tree.fail) Tree.fail) Tree.fail))) Tree.fail) Tree.fail
noncomputable def F_chk : denAs [.c (.d insT)] → denObs [] → Tree (AV × List Ob) := fun x y => match x, y with
  | (l, ()), () => ckP (l.length ≤ 140737488355328) (.ret (.t [.one (.v (.int .i64 (chk l).1)), .one (.v (.int .i64 (chk l).2))], []))
theorem ev_chk : ∀ a, (evalFnL Tryz.prog (lk L_leads) 20 noL Tryz.f11 (Tryz.f11.body.getD .skip) [] (encAs [.c (.d insT)] (ea_chk a)) (encOs [] (eo_chk a))).run = (E_chk a).run := by
  rintro l
  kernel_rfl
theorem fe_chk : ∀ a y, (F_chk (ea_chk a) (eo_chk a)).run = some y → (E_chk a).run = some y := by
  rintro l y h
  obtain ⟨h1, h⟩ := ckP_run h
  rw [← h]
  change l.length ≤ 140737488355328 at h1
  dsimp only [E_chk]
  change _ = (Tree.ret (AV.t [.one (.v (.int .i64 (chk l).1)), .one (.v (.int .i64 (chk l).2))], [])).run
  refine (goT (decP h1)).trans ((goT (decP (lenOkS h1))).trans ?_)
  by_cases g0 : l.length < 1 ∨ 4096 < l.length
  · unfold chk
    rw [if_pos g0]
    exact goT (by rw [Bool.or_eq_true, decide_eq_true_eq, decide_eq_true_eq]; exact g0)
  refine (goF (by rw [Bool.or_eq_false_iff, decide_eq_false_iff_not, decide_eq_false_iff_not]; omega)).trans ?_
  cases g1 : firstBad l (secs l) with
  | some k =>
    obtain ⟨b1, b2, _⟩ := bad_some g1
    have e1 : badIs l (secs l) = true := by unfold badIs; rw [g1]; rfl
    have e2 : badAt l (secs l) = k := by unfold badAt; rw [g1]; rfl
    unfold chk
    rw [if_neg g0, g1]
    refine (goT e1).trans ?_
    rw [e2]
    exact goTne b2
  | none =>
    have e1 : badIs l (secs l) = false := by unfold badIs; rw [g1]; rfl
    have ht := good_targets g1
    have hf := froms_once (by omega) ht
    obtain ⟨q1, q2⟩ := subs_ends (by omega) ht (secs0 l)
    have hsp := splitL_ints l (secs l)
    have hle := froms_len l (secs l)
    have hle2 := ints_len (froms l (secs l))
    refine (goF e1).trans ((goT (decP ⟨lenOkS h1, by omega⟩)).trans ?_)
    rw [hf]
    refine (goT (decP ⟨by omega, by omega⟩)).trans ?_
    rw [hsp]
    refine (goT (decP ⟨lenOkS h1, q1⟩)).trans ?_
    have hpl := subsL_len l (secs l)
    rw [show (subsL l (secs l)).length = (froms l (secs l)).length from hpl]
    unfold chk
    rw [if_neg g0, g1]
    simp only []
    by_cases g2 : 64 < (froms l (secs l)).length
    · rw [if_pos g2]
      exact goTd g2
    refine (goFd g2).trans ?_
    rw [if_neg g2]
    cases g3 : endedI l (secs l) (subsL l (secs l)) with
    | some z =>
      have e2 : endIs l (secs l) (subsL l (secs l)) = true := by unfold endIs; rw [g3]; rfl
      have e3 : endAt l (secs l) (subsL l (secs l)) = z := by unfold endAt; rw [g3]; rfl
      refine (goT e2).trans ?_
      rw [e3]
    | none =>
      have e2 : endIs l (secs l) (subsL l (secs l)) = false := by unfold endIs; rw [g3]; rfl
      refine (goF e2).trans ?_
      refine (goT (decP ⟨lenOkS h1, q2⟩)).trans ?_
      cases g4 : leadsI l (secs l) (subsL l (secs l)) with
      | some k =>
        have e3 : ldsIs l (secs l) (subsL l (secs l)) = true := by unfold ldsIs; rw [g4]; rfl
        have e4 : ldsAt l (secs l) (subsL l (secs l)) = k := by unfold ldsAt; rw [g4]; rfl
        refine (goT e3).trans ?_
        rw [e4]
      | none =>
        have e3 : ldsIs l (secs l) (subsL l (secs l)) = false := by unfold ldsIs; rw [g4]; rfl
        exact goF e3
theorem ok_chk : SummOk Kn Tryz.prog 11 (sumT [.dp insT] false [.c (.d insT)] [] F_chk) := sumT_view tok_leads Tryz.checked.mixed Tryz.func11 (by kernel_rfl) (by rfl) 20 [] ea_chk eo_chk
  (by rintro ⟨l, ⟨⟩⟩ ⟨⟩; exact ⟨l, rfl, rfl⟩) noL 0 (by rintro ⟨⟩; rfl) (noL_ok _ _ _ _ _ _) E_chk ev_chk fe_chk
noncomputable def L_chk : List (Nat × Summ) := (11, (sumT [.dp insT] false [.c (.d insT)] [] F_chk)) :: L_leads
theorem tok_chk : TOk Kn Tryz.prog (lk L_chk) := lk_cons ok_chk tok_leads
def ea_sbs : Slots → denAs [.c (.d insT)] := fun l => (l, ())
def eo_sbs : Slots → denObs [] := fun l => ()
noncomputable def E_sbs : Slots → Tree (AV × List Ob) := fun l => 
Tree.ite (decC (List.length l ≤ (140737488355328 : Nat))) (Tree.ite (decC (lenOk l (secs l))) (Tree.ite (decide (List.length l < (1 : Nat)) || decide ((4096 : Nat) < List.length l)) (Tree.ret (AV.t [Part.one (Cell.h (0 : Nat)), Part.one (Cell.v (Value.int IntKind.i64 (0 : Int))), Part.one (Cell.v (Value.int IntKind.i64 (10 : Int)))], [Ob.row partsT []])) (Tree.ite (badIs l (secs l)) (Tree.ite (wrongI l (badAt l (secs l)) (secs l) != (0 : Int)) (Tree.ret (AV.t [Part.one (Cell.h (0 : Nat)), Part.one (Cell.v (Value.int IntKind.i64 (↑(badAt l (secs l)) : Int))), Part.one (Cell.v (Value.int IntKind.i64 (wrongI l (badAt l (secs l)) (secs l))))], [Ob.row partsT []])) (Tree.ite (decC (lenOk l (secs l) ∧ List.length l ≤ (4096 : Nat))) (Tree.ite (decC (List.length (once (sorted (begL l (secs l) (List.length l)))) ≤ (1000000 : Nat) ∧ List.length l ≤ (1000000 : Nat))) (Tree.ite (decC (lenOk l (secs l) ∧ endsOk l (secs l) (splitL (List.length l) (once (sorted (begL l (secs l) (List.length l)))) (List.length (once (sorted (begL l (secs l) (List.length l)))))))) (Tree.ite (decide ((64 : Nat) < List.length (splitL (List.length l) (once (sorted (begL l (secs l) (List.length l)))) (List.length (once (sorted (begL l (secs l) (List.length l)))))))) (Tree.ret (AV.t [Part.one (Cell.h (0 : Nat)), Part.one (Cell.v (Value.int IntKind.i64 (0 : Int))), Part.one (Cell.v (Value.int IntKind.i64 (17 : Int)))], [Ob.row partsT []])) (Tree.ite (endIs l (secs l) (splitL (List.length l) (once (sorted (begL l (secs l) (List.length l)))) (List.length (once (sorted (begL l (secs l) (List.length l))))))) (Tree.ret (AV.t [Part.one (Cell.h (0 : Nat)), Part.one (Cell.v (Value.int IntKind.i64 (endAt l (secs l) (splitL (List.length l) (once (sorted (begL l (secs l) (List.length l)))) (List.length (once (sorted (begL l (secs l) (List.length l))))))))), Part.one (Cell.v (Value.int IntKind.i64 (16 : Int)))], [Ob.row partsT []])) (Tree.ret (AV.t [Part.one (Cell.h (0 : Nat)), Part.one (Cell.v (Value.int IntKind.i64 (0 : Int))), Part.one (Cell.v (Value.int IntKind.i64 (0 : Int)))], [Ob.row partsT (splitL (List.length l) (once (sorted (begL l (secs l) (List.length l)))) (List.length (once (sorted (begL l (secs l) (List.length l))))))])))) Tree.fail) Tree.fail) Tree.fail)) (Tree.ite (decC (lenOk l (secs l) ∧ List.length l ≤ (4096 : Nat))) (Tree.ite (decC (List.length (once (sorted (begL l (secs l) (List.length l)))) ≤ (1000000 : Nat) ∧ List.length l ≤ (1000000 : Nat))) (Tree.ite (decC (lenOk l (secs l) ∧ endsOk l (secs l) (splitL (List.length l) (once (sorted (begL l (secs l) (List.length l)))) (List.length (once (sorted (begL l (secs l) (List.length l)))))))) (Tree.ite (decide ((64 : Nat) < List.length (splitL (List.length l) (once (sorted (begL l (secs l) (List.length l)))) (List.length (once (sorted (begL l (secs l) (List.length l)))))))) (Tree.ret (AV.t [Part.one (Cell.h (0 : Nat)), Part.one (Cell.v (Value.int IntKind.i64 (0 : Int))), Part.one (Cell.v (Value.int IntKind.i64 (17 : Int)))], [Ob.row partsT []])) (Tree.ite (endIs l (secs l) (splitL (List.length l) (once (sorted (begL l (secs l) (List.length l)))) (List.length (once (sorted (begL l (secs l) (List.length l))))))) (Tree.ret (AV.t [Part.one (Cell.h (0 : Nat)), Part.one (Cell.v (Value.int IntKind.i64 (endAt l (secs l) (splitL (List.length l) (once (sorted (begL l (secs l) (List.length l)))) (List.length (once (sorted (begL l (secs l) (List.length l))))))))), Part.one (Cell.v (Value.int IntKind.i64 (16 : Int)))], [Ob.row partsT []])) (Tree.ret (AV.t [Part.one (Cell.h (0 : Nat)), Part.one (Cell.v (Value.int IntKind.i64 (0 : Int))), Part.one (Cell.v (Value.int IntKind.i64 (0 : Int)))], [Ob.row partsT (splitL (List.length l) (once (sorted (begL l (secs l) (List.length l)))) (List.length (once (sorted (begL l (secs l) (List.length l))))))])))) Tree.fail) Tree.fail) Tree.fail))) Tree.fail) Tree.fail
noncomputable def F_sbs : denAs [.c (.d insT)] → denObs [] → Tree (AV × List Ob) := fun x y => match x, y with
  | (l, ()), () => ckP (l.length ≤ 140737488355328) (.ret (.t [.one (.h 0), .one (.v (.int .i64 (sbs l).2.1)), .one (.v (.int .i64 (sbs l).2.2))], [Ob.row partsT (sbs l).1]))
theorem ev_sbs : ∀ a, (evalFnL Tryz.prog (lk L_chk) 20 noL Tryz.f256 (Tryz.f256.body.getD .skip) [(0, partsT)] (encAs [.c (.d insT)] (ea_sbs a)) (encOs [] (eo_sbs a))).run = (E_sbs a).run := by
  rintro l
  kernel_rfl
theorem fe_sbs : ∀ a y, (F_sbs (ea_sbs a) (eo_sbs a)).run = some y → (E_sbs a).run = some y := by
  rintro l y h
  obtain ⟨h1, h⟩ := ckP_run h
  rw [← h]
  change l.length ≤ 140737488355328 at h1
  dsimp only [E_sbs]
  change _ = (Tree.ret (AV.t [.one (.h 0), .one (.v (.int .i64 (sbs l).2.1)), .one (.v (.int .i64 (sbs l).2.2))], [Ob.row partsT (sbs l).1])).run
  refine (goT (decP h1)).trans ((goT (decP (lenOkS h1))).trans ?_)
  by_cases g0 : l.length < 1 ∨ 4096 < l.length
  · unfold sbs
    rw [if_pos g0]
    exact goT (by rw [Bool.or_eq_true, decide_eq_true_eq, decide_eq_true_eq]; exact g0)
  refine (goF (by rw [Bool.or_eq_false_iff, decide_eq_false_iff_not, decide_eq_false_iff_not]; omega)).trans ?_
  cases g1 : firstBad l (secs l) with
  | some k =>
    obtain ⟨b1, b2, _⟩ := bad_some g1
    have e1 : badIs l (secs l) = true := by unfold badIs; rw [g1]; rfl
    have e2 : badAt l (secs l) = k := by unfold badAt; rw [g1]; rfl
    unfold sbs
    rw [if_neg g0, g1]
    refine (goT e1).trans ?_
    rw [e2]
    exact goTne b2
  | none =>
    have e1 : badIs l (secs l) = false := by unfold badIs; rw [g1]; rfl
    have ht := good_targets g1
    have hf := froms_once (by omega) ht
    obtain ⟨q1, q2⟩ := subs_ends (by omega) ht (secs0 l)
    have hsp := splitL_ints l (secs l)
    have hle := froms_len l (secs l)
    have hle2 := ints_len (froms l (secs l))
    refine (goF e1).trans ((goT (decP ⟨lenOkS h1, by omega⟩)).trans ?_)
    rw [hf]
    refine (goT (decP ⟨by omega, by omega⟩)).trans ?_
    rw [hsp]
    refine (goT (decP ⟨lenOkS h1, q1⟩)).trans ?_
    have hpl := subsL_len l (secs l)
    rw [show (subsL l (secs l)).length = (froms l (secs l)).length from hpl]
    unfold sbs
    rw [if_neg g0, g1]
    simp only []
    by_cases g2 : 64 < (froms l (secs l)).length
    · rw [if_pos g2]
      exact goTd g2
    refine (goFd g2).trans ?_
    rw [if_neg g2]
    cases g3 : endedI l (secs l) (subsL l (secs l)) with
    | some z =>
      have e2 : endIs l (secs l) (subsL l (secs l)) = true := by unfold endIs; rw [g3]; rfl
      have e3 : endAt l (secs l) (subsL l (secs l)) = z := by unfold endAt; rw [g3]; rfl
      refine (goT e2).trans ?_
      rw [e3]
    | none =>
      have e2 : endIs l (secs l) (subsL l (secs l)) = false := by unfold endIs; rw [g3]; rfl
      refine (goF e2).trans ?_
      rfl
theorem ok_sbs : SummOk Kn Tryz.prog 256 (sumT [.dp insT] false [.c (.d insT)] [] F_sbs) := sumT_view tok_chk Tryz.checked.mixed Tryz.func256 (by kernel_rfl) (by rfl) 20 [(0, partsT)] ea_sbs eo_sbs
  (by rintro ⟨l, ⟨⟩⟩ ⟨⟩; exact ⟨l, rfl, rfl⟩) noL 0 (by rintro ⟨⟩; rfl) (noL_ok _ _ _ _ _ _) E_sbs ev_sbs fe_sbs
noncomputable def L_sbs : List (Nat × Summ) := (256, (sumT [.dp insT] false [.c (.d insT)] [] F_sbs)) :: L_chk
theorem tok_sbs : TOk Kn Tryz.prog (lk L_sbs) := lk_cons ok_sbs tok_chk
end Go.Proofs.YtpocmhfgnpgikaaGreatDoor
