/-
  The contracts of what tells the faults of slots (written by our own gen_inc.py).
-/
import Derived.Test.YtpocmhfgnpgikaaGreatDoorInB
import Derived.Test.YtpocmhfgnpgikaaGreatDoorInT
namespace Go.Proofs.YtpocmhfgnpgikaaGreatDoor
open Go Go.Sy Go.Sz Go.In Go.Proofs.YtpocmhfgnpgikaaGreatDoor
set_option linter.unusedVariables false
set_option linter.unusedSimpArgs false
set_option linter.constructorNameAsVariable false
set_option maxRecDepth 100000
set_option maxHeartbeats 8000000
theorem bif0 (c : Bool) (n : Int) : ((bif c then 0 else n) == 0) = bif c then true else n == 0 := by cases c <;> rfl
theorem class5 : ∀ o : BitVec 8, (((o &&& BitVec.ofInt 8 7).toNat : Int) == 5) = (o &&& BitVec.ofInt 8 7 == BitVec.ofInt 8 5) ∧ (((o &&& BitVec.ofInt 8 7).toNat : Int) == 6) = (o &&& BitVec.ofInt 8 7 == BitVec.ofInt 8 6) ∧ (((o >>> 4).toNat : Int) == 8) = (o >>> 4 == BitVec.ofInt 8 8) ∧ (((o >>> 4).toNat : Int) == 9) = (o >>> 4 == BitVec.ofInt 8 9) := by decide +kernel
def ea_calls : Slots × Int → denAs [.c (.d insT), .c (.i .i64)] := fun ⟨l, k⟩ => (l, k, ())
def eo_calls : Slots × Int → denObs [] := fun ⟨l, k⟩ => ()
noncomputable def E_calls : Slots × Int → Tree (AV × List Ob) := fun ⟨l, k⟩ => 
Tree.ite (decide ((0 : Int) ≤ k) && decide (k < (↑(List.length l) : Int))) (Tree.ite ((List.getD l k.toNat noIns).fst == BitVec.ofInt (8 : Nat) (133 : Int)) (Tree.ite (!(List.getD l k.toNat noIns).snd.snd.fst == BitVec.ofInt (8 : Nat) (1 : Int)) (Tree.ite ((List.getD l k.toNat noIns).fst == BitVec.ofInt (8 : Nat) (24 : Int)) (Tree.ret (AV.t [Part.one (Cell.v (Value.int IntKind.i64 (IntKind.i64.wrap (IntKind.i64.wrap (k + (1 : Int)) + IntKind.i64.wrap (List.getD l k.toNat noIns).snd.snd.snd.snd.fst)))), Part.one (Cell.v (Value.bool ((List.getD l k.toNat noIns).snd.snd.fst == BitVec.ofInt (8 : Nat) (4 : Int))))], [])) (Tree.ret (AV.t [Part.one (Cell.v (Value.int IntKind.i64 (IntKind.i64.wrap (IntKind.i64.wrap (k + (1 : Int)) + IntKind.i64.wrap (List.getD l k.toNat noIns).snd.snd.snd.snd.fst)))), Part.one (Cell.v (Value.bool false))], []))) (Tree.ret (AV.t [Part.one (Cell.v (Value.int IntKind.i64 (IntKind.i64.wrap (IntKind.i64.wrap (k + (1 : Int)) + IntKind.i64.wrap (List.getD l k.toNat noIns).snd.snd.snd.snd.fst)))), Part.one (Cell.v (Value.bool true))], []))) (Tree.ite ((List.getD l k.toNat noIns).fst == BitVec.ofInt (8 : Nat) (24 : Int)) (Tree.ret (AV.t [Part.one (Cell.v (Value.int IntKind.i64 (IntKind.i64.wrap (IntKind.i64.wrap (k + (1 : Int)) + IntKind.i64.wrap (List.getD l k.toNat noIns).snd.snd.snd.snd.fst)))), Part.one (Cell.v (Value.bool ((List.getD l k.toNat noIns).snd.snd.fst == BitVec.ofInt (8 : Nat) (4 : Int))))], [])) (Tree.ret (AV.t [Part.one (Cell.v (Value.int IntKind.i64 (IntKind.i64.wrap (IntKind.i64.wrap (k + (1 : Int)) + IntKind.i64.wrap (List.getD l k.toNat noIns).snd.snd.snd.snd.fst)))), Part.one (Cell.v (Value.bool false))], [])))) Tree.fail
noncomputable def F_calls : denAs [.c (.d insT), .c (.i .i64)] → denObs [] → Tree (AV × List Ob) := fun x y => match x, y with
  | (l, k, ()), () => ckP (0 ≤ k ∧ k < l.length) (.ret (.t [.one (.v (.int .i64 (callI l k))), .one (.v (.bool (namesB (slotA l k.toNat))))], []))
theorem ev_calls : ∀ a, (evalFnL Tryz.prog (lk L_rnames) 30 noL Tryz.f50 (Tryz.f50.body.getD .skip) [] (encAs [.c (.d insT), .c (.i .i64)] (ea_calls a)) (encOs [] (eo_calls a))).run = (E_calls a).run := by
  rintro ⟨l, k⟩
  kernel_rfl
theorem fe_calls : ∀ a y, (F_calls (ea_calls a) (eo_calls a)).run = some y → (E_calls a).run = some y := by
  rintro ⟨l, k⟩ y h
  obtain ⟨h1, h⟩ := ckP_run h
  change 0 ≤ k ∧ k < (l.length : Int) at h1
  rw [← h]
  simp only [E_calls]
  rw [goTa h1]
  unfold namesB callI goI
  simp only [slotA]
  generalize (l.getD k.toNat noIns) = X
  cases (X.1 == BitVec.ofInt 8 133) <;> cases (X.2.2.1 == BitVec.ofInt 8 1) <;> cases (X.1 == BitVec.ofInt 8 24) <;> cases (X.2.2.1 == BitVec.ofInt 8 4) <;> rfl
theorem ok_calls : SummOk Kn Tryz.prog 50 (sumT [.dp insT, .any] false [.c (.d insT), .c (.i .i64)] [] F_calls) := sumT_view tok_rnames Tryz.checked.mixed Tryz.func50 (by kernel_rfl) (by rfl) 30 [] ea_calls eo_calls
  (by rintro ⟨l, k, ⟨⟩⟩ ⟨⟩; exact ⟨(l, k), rfl, rfl⟩) noL 0 (by rintro ⟨⟩; rfl) (noL_ok _ _ _ _ _ _) E_calls ev_calls fe_calls
noncomputable def L_calls : List (Nat × Summ) := (50, (sumT [.dp insT, .any] false [.c (.d insT), .c (.i .i64)] [] F_calls)) :: L_rnames
theorem tok_calls : TOk Kn Tryz.prog (lk L_calls) := lk_cons ok_calls tok_rnames
def ea_jumps : Slots × Int → denAs [.c (.d insT), .c (.i .i64)] := fun ⟨l, k⟩ => (l, k, ())
def eo_jumps : Slots × Int → denObs [] := fun ⟨l, k⟩ => ()
noncomputable def E_jumps : Slots × Int → Tree (AV × List Ob) := fun ⟨l, k⟩ => 
Tree.ite (decide ((0 : Int) ≤ k) && decide (k < (↑(List.length l) : Int))) (Tree.ite (!(↑((List.getD l k.toNat noIns).fst &&& BitVec.ofInt (8 : Nat) (7 : Int)).toNat : Int) == (5 : Int)) (Tree.ite ((↑((List.getD l k.toNat noIns).fst &&& BitVec.ofInt (8 : Nat) (7 : Int)).toNat : Int) == (6 : Int)) (Tree.ite ((↑((List.getD l k.toNat noIns).fst >>> (4 : Nat)).toNat : Int) != (8 : Int)) (Tree.ret (AV.t [Part.one (Cell.v (Value.int IntKind.i64 (IntKind.i64.wrap (IntKind.i64.wrap (k + (1 : Int)) + IntKind.i64.wrap (List.getD l k.toNat noIns).snd.snd.snd.fst)))), Part.one (Cell.v (Value.bool ((↑((List.getD l k.toNat noIns).fst >>> (4 : Nat)).toNat : Int) != (9 : Int))))], [])) (Tree.ret (AV.t [Part.one (Cell.v (Value.int IntKind.i64 (IntKind.i64.wrap (IntKind.i64.wrap (k + (1 : Int)) + IntKind.i64.wrap (List.getD l k.toNat noIns).snd.snd.snd.fst)))), Part.one (Cell.v (Value.bool false))], []))) (Tree.ret (AV.t [Part.one (Cell.v (Value.int IntKind.i64 (IntKind.i64.wrap (IntKind.i64.wrap (k + (1 : Int)) + IntKind.i64.wrap (List.getD l k.toNat noIns).snd.snd.snd.fst)))), Part.one (Cell.v (Value.bool false))], []))) (Tree.ite ((↑((List.getD l k.toNat noIns).fst >>> (4 : Nat)).toNat : Int) != (8 : Int)) (Tree.ret (AV.t [Part.one (Cell.v (Value.int IntKind.i64 (IntKind.i64.wrap (IntKind.i64.wrap (k + (1 : Int)) + IntKind.i64.wrap (List.getD l k.toNat noIns).snd.snd.snd.fst)))), Part.one (Cell.v (Value.bool ((↑((List.getD l k.toNat noIns).fst >>> (4 : Nat)).toNat : Int) != (9 : Int))))], [])) (Tree.ret (AV.t [Part.one (Cell.v (Value.int IntKind.i64 (IntKind.i64.wrap (IntKind.i64.wrap (k + (1 : Int)) + IntKind.i64.wrap (List.getD l k.toNat noIns).snd.snd.snd.fst)))), Part.one (Cell.v (Value.bool false))], [])))) Tree.fail
noncomputable def F_jumps : denAs [.c (.d insT), .c (.i .i64)] → denObs [] → Tree (AV × List Ob) := fun x y => match x, y with
  | (l, k, ()), () => ckP (0 ≤ k ∧ k < l.length) (.ret (.t [.one (.v (.int .i64 (jumpI l k))), .one (.v (.bool (jumpsB (slotA l k.toNat).1)))], []))
theorem ev_jumps : ∀ a, (evalFnL Tryz.prog (lk L_calls) 30 noL Tryz.f53 (Tryz.f53.body.getD .skip) [] (encAs [.c (.d insT), .c (.i .i64)] (ea_jumps a)) (encOs [] (eo_jumps a))).run = (E_jumps a).run := by
  rintro ⟨l, k⟩
  kernel_rfl
theorem fe_jumps : ∀ a y, (F_jumps (ea_jumps a) (eo_jumps a)).run = some y → (E_jumps a).run = some y := by
  rintro ⟨l, k⟩ y h
  obtain ⟨h1, h⟩ := ckP_run h
  change 0 ≤ k ∧ k < (l.length : Int) at h1
  rw [← h]
  simp only [E_jumps]
  rw [goTa h1]
  unfold jumpsB jumpI goI
  simp only [slotA, bne]
  generalize (l.getD k.toNat noIns) = X
  obtain ⟨e1, e2, e3, e4⟩ := class5 X.1
  rw [e1, e2, e3, e4]
  cases (X.1 &&& BitVec.ofInt 8 7 == BitVec.ofInt 8 5) <;> cases (X.1 &&& BitVec.ofInt 8 7 == BitVec.ofInt 8 6) <;> cases (X.1 >>> 4 == BitVec.ofInt 8 8) <;> cases (X.1 >>> 4 == BitVec.ofInt 8 9) <;> rfl
theorem ok_jumps : SummOk Kn Tryz.prog 53 (sumT [.dp insT, .any] false [.c (.d insT), .c (.i .i64)] [] F_jumps) := sumT_view tok_calls Tryz.checked.mixed Tryz.func53 (by kernel_rfl) (by rfl) 30 [] ea_jumps eo_jumps
  (by rintro ⟨l, k, ⟨⟩⟩ ⟨⟩; exact ⟨(l, k), rfl, rfl⟩) noL 0 (by rintro ⟨⟩; rfl) (noL_ok _ _ _ _ _ _) E_jumps ev_jumps fe_jumps
noncomputable def L_jumps : List (Nat × Summ) := (53, (sumT [.dp insT, .any] false [.c (.d insT), .c (.i .i64)] [] F_jumps)) :: L_calls
theorem tok_jumps : TOk Kn Tryz.prog (lk L_jumps) := lk_cons ok_jumps tok_calls
def ea_whole : Slots × Int → denAs [.c (.d insT), .c (.i .i64)] := fun ⟨l, k⟩ => (l, k, ())
def eo_whole : Slots × Int → denObs [] := fun ⟨l, k⟩ => ()
noncomputable def E_whole : Slots × Int → Tree (AV × List Ob) := fun ⟨l, k⟩ => 
Tree.ite (decide ((↑(List.length l) : Int) ≤ IntKind.i64.wrap (k + (1 : Int)))) (Tree.ret (AV.p (Part.one (Cell.v (Value.bool false))), [])) (Tree.ite (decide ((0 : Int) ≤ IntKind.i64.wrap (k + (1 : Int))) && decide (IntKind.i64.wrap (k + (1 : Int)) < (↑(List.length l) : Int))) (Tree.ite (decide ((0 : Int) ≤ k) && decide (k < (↑(List.length l) : Int))) (Tree.ite ((List.getD l k.toNat noIns).snd.snd.fst == BitVec.ofInt (8 : Nat) (0 : Int)) (Tree.ret (AV.p (Part.one (Cell.v (Value.bool ((List.getD l (IntKind.i64.wrap (k + (1 : Int))).toNat noIns).fst == BitVec.ofInt (8 : Nat) (0 : Int) && ((List.getD l (IntKind.i64.wrap (k + (1 : Int))).toNat noIns).snd.fst == BitVec.ofInt (8 : Nat) (0 : Int) && ((List.getD l (IntKind.i64.wrap (k + (1 : Int))).toNat noIns).snd.snd.fst == BitVec.ofInt (8 : Nat) (0 : Int) && ((List.getD l (IntKind.i64.wrap (k + (1 : Int))).toNat noIns).snd.snd.snd.fst == (0 : Int) && true))))))), [])) (Tree.ret (AV.p (Part.one (Cell.v (Value.bool ((List.getD l (IntKind.i64.wrap (k + (1 : Int))).toNat noIns).fst == BitVec.ofInt (8 : Nat) (0 : Int) && ((List.getD l (IntKind.i64.wrap (k + (1 : Int))).toNat noIns).snd.fst == BitVec.ofInt (8 : Nat) (0 : Int) && ((List.getD l (IntKind.i64.wrap (k + (1 : Int))).toNat noIns).snd.snd.fst == BitVec.ofInt (8 : Nat) (0 : Int) && ((List.getD l (IntKind.i64.wrap (k + (1 : Int))).toNat noIns).snd.snd.snd.fst == (0 : Int) && ((List.getD l (IntKind.i64.wrap (k + (1 : Int))).toNat noIns).snd.snd.snd.snd.fst == (0 : Int) && true)))))))), []))) Tree.fail) Tree.fail)
noncomputable def F_whole : denAs [.c (.d insT), .c (.i .i64)] → denObs [] → Tree (AV × List Ob) := fun x y => match x, y with
  | (l, k, ()), () => ckP (0 ≤ k ∧ k < l.length ∧ l.length ≤ 140737488355328) (.ret (AV.b (wholeB l k.toNat), []))
theorem ev_whole : ∀ a, (evalFnL Tryz.prog (lk L_jumps) 30 noL Tryz.f70 (Tryz.f70.body.getD .skip) [] (encAs [.c (.d insT), .c (.i .i64)] (ea_whole a)) (encOs [] (eo_whole a))).run = (E_whole a).run := by
  rintro ⟨l, k⟩
  kernel_rfl
theorem fe_whole : ∀ a y, (F_whole (ea_whole a) (eo_whole a)).run = some y → (E_whole a).run = some y := by
  rintro ⟨l, k⟩ y h
  obtain ⟨⟨h1, h2, h3⟩, h⟩ := ckP_run h
  change 0 ≤ k at h1
  change k < (l.length : Int) at h2
  change l.length ≤ 140737488355328 at h3
  rw [← h]
  simp only [E_whole]
  rw [wrap64 (by omega) (by omega), show (k + 1).toNat = k.toNat + 1 by omega]
  change _ = some (AV.b (wholeB l k.toNat), [])
  unfold wholeB
  by_cases hk : (l.length : Int) ≤ k + 1
  · rw [goTd hk, decide_eq_true (by omega)]; rfl
  · rw [goFd hk, goTa ⟨by omega, by omega⟩, goTa ⟨h1, h2⟩, decide_eq_false (by omega)]
    generalize (l.getD k.toNat noIns) = X
    generalize (l.getD (k.toNat + 1) noIns) = Y
    rw [bif0]
    cases (X.2.2.1 == BitVec.ofInt 8 0) <;> cases (Y.1 == BitVec.ofInt 8 0) <;> cases (Y.2.1 == BitVec.ofInt 8 0) <;> cases (Y.2.2.1 == BitVec.ofInt 8 0) <;> cases (Y.2.2.2.1 == 0) <;> cases (Y.2.2.2.2.1 == 0) <;> rfl
theorem ok_whole : SummOk Kn Tryz.prog 70 (sumT [.dp insT, .any] false [.c (.d insT), .c (.i .i64)] [] F_whole) := sumT_view tok_jumps Tryz.checked.mixed Tryz.func70 (by kernel_rfl) (by rfl) 30 [] ea_whole eo_whole
  (by rintro ⟨l, k, ⟨⟩⟩ ⟨⟩; exact ⟨(l, k), rfl, rfl⟩) noL 0 (by rintro ⟨⟩; rfl) (noL_ok _ _ _ _ _ _) E_whole ev_whole fe_whole
noncomputable def L_whole : List (Nat × Summ) := (70, (sumT [.dp insT, .any] false [.c (.d insT), .c (.i .i64)] [] F_whole)) :: L_jumps
theorem tok_whole : TOk Kn Tryz.prog (lk L_whole) := lk_cons ok_whole tok_jumps
def wrongS (kn u1 u2 d10 wr wide whole names bad o133 i1 i2 : Bool) : Int :=
  bif kn then bif u1 || u2 || (d10 && wr) then 12 else bif wide && !whole then 13 else bif names then bif bad then 14 else 0 else bif o133 && (i1 || i2) then 14 else 0 else 11
def badTo (l : Slots) (k : Nat) (b : Bools) : Bool := decide (callI l k < 1) || decide ((l.length : Int) ≤ callI l k) || secA b (callI l k)
noncomputable def wrongX (x : Ins) (whole bad : Bool) : Int := wrongS (B_known x.1 x.2.1 x.2.2.1 x.2.2.2.1 x.2.2.2.2.1) ((BitVec.ofInt 8 10).ult x.2.1) ((BitVec.ofInt 8 10).ult x.2.2.1) (x.2.1 == BitVec.ofInt 8 10)
  (B_writes x.1 x.2.1 x.2.2.1 x.2.2.2.1 x.2.2.2.2.1) (x.1 == BitVec.ofInt 8 24) whole (namesB x) bad (x.1 == BitVec.ofInt 8 133) (decide (x.2.2.2.2.1 < 1)) (decide (28 < x.2.2.2.2.1))
noncomputable def wrongI (l : Slots) (k : Nat) (b : Bools) : Int := wrongX (slotA l k) (wholeB l k) (badTo l k b)
def ea_wrong : Slots × Int × Bools → denAs [.c (.d insT), .c (.i .i64), .c (.d boolsT)] := fun ⟨l, k, b⟩ => (l, k, b, ())
def eo_wrong : Slots × Int × Bools → denObs [] := fun ⟨l, k, b⟩ => ()
noncomputable def E_wrong : Slots × Int × Bools → Tree (AV × List Ob) := fun ⟨l, k, b⟩ => 
Tree.ite (decide ((0 : Int) ≤ k) && decide (k < (↑(List.length l) : Int))) (Tree.ite (!B_known (List.getD l k.toNat noIns).fst (List.getD l k.toNat noIns).snd.fst (List.getD l k.toNat noIns).snd.snd.fst (List.getD l k.toNat noIns).snd.snd.snd.fst (List.getD l k.toNat noIns).snd.snd.snd.snd.fst) (Tree.ret (AV.p (Part.one (Cell.v (Value.int IntKind.i64 (11 : Int)))), [])) (Tree.ite (!(BitVec.ofInt (8 : Nat) (10 : Int)).ult (List.getD l k.toNat noIns).snd.fst) (Tree.ite (!(BitVec.ofInt (8 : Nat) (10 : Int)).ult (List.getD l k.toNat noIns).snd.snd.fst) (Tree.ite ((List.getD l k.toNat noIns).snd.fst == BitVec.ofInt (8 : Nat) (10 : Int)) (Tree.ite (B_writes (List.getD l k.toNat noIns).fst (List.getD l k.toNat noIns).snd.fst (List.getD l k.toNat noIns).snd.snd.fst (List.getD l k.toNat noIns).snd.snd.snd.fst (List.getD l k.toNat noIns).snd.snd.snd.snd.fst) (Tree.ret (AV.p (Part.one (Cell.v (Value.int IntKind.i64 (12 : Int)))), [])) (Tree.ite ((List.getD l k.toNat noIns).fst == BitVec.ofInt (8 : Nat) (24 : Int)) (Tree.ite (decC ((0 : Int) ≤ k ∧ k < (↑(List.length l) : (ShA.c (ShC.i IntKind.i64)).den) ∧ List.length l ≤ (140737488355328 : Nat))) (Tree.ite (!wholeB l k.toNat) (Tree.ret (AV.p (Part.one (Cell.v (Value.int IntKind.i64 (13 : Int)))), [])) (Tree.ite (decC ((0 : Int) ≤ k ∧ k < (↑(List.length l) : (ShA.c (ShC.i IntKind.i64)).den))) (Tree.ite (namesB (slotA l k.toNat)) (Tree.ite (!decide (callI l k < (1 : Int))) (Tree.ite (!decide ((↑(List.length l) : Int) ≤ callI l k)) (Tree.ite (decide ((0 : Int) ≤ callI l k) && decide (callI l k < (↑(List.length b) : Int))) (Tree.ite (List.getD b (callI l k).toNat (false, ())).fst (Tree.ret (AV.p (Part.one (Cell.v (Value.int IntKind.i64 (14 : Int)))), [])) (Tree.ret (AV.p (Part.one (Cell.v (Value.int IntKind.i64 (0 : Int)))), []))) Tree.fail) (Tree.ret (AV.p (Part.one (Cell.v (Value.int IntKind.i64 (14 : Int)))), []))) (Tree.ret (AV.p (Part.one (Cell.v (Value.int IntKind.i64 (14 : Int)))), []))) (Tree.ite ((List.getD l k.toNat noIns).fst == BitVec.ofInt (8 : Nat) (133 : Int)) (Tree.ite (!decide ((List.getD l k.toNat noIns).snd.snd.snd.snd.fst < (1 : Int))) (Tree.ite (decide ((28 : Int) < (List.getD l k.toNat noIns).snd.snd.snd.snd.fst)) (Tree.ret (AV.p (Part.one (Cell.v (Value.int IntKind.i64 (14 : Int)))), [])) (Tree.ret (AV.p (Part.one (Cell.v (Value.int IntKind.i64 (0 : Int)))), []))) (Tree.ret (AV.p (Part.one (Cell.v (Value.int IntKind.i64 (14 : Int)))), []))) (Tree.ret (AV.p (Part.one (Cell.v (Value.int IntKind.i64 (0 : Int)))), [])))) Tree.fail)) Tree.fail) (Tree.ite (decC ((0 : Int) ≤ k ∧ k < (↑(List.length l) : (ShA.c (ShC.i IntKind.i64)).den))) (Tree.ite (namesB (slotA l k.toNat)) (Tree.ite (!decide (callI l k < (1 : Int))) (Tree.ite (!decide ((↑(List.length l) : Int) ≤ callI l k)) (Tree.ite (decide ((0 : Int) ≤ callI l k) && decide (callI l k < (↑(List.length b) : Int))) (Tree.ite (List.getD b (callI l k).toNat (false, ())).fst (Tree.ret (AV.p (Part.one (Cell.v (Value.int IntKind.i64 (14 : Int)))), [])) (Tree.ret (AV.p (Part.one (Cell.v (Value.int IntKind.i64 (0 : Int)))), []))) Tree.fail) (Tree.ret (AV.p (Part.one (Cell.v (Value.int IntKind.i64 (14 : Int)))), []))) (Tree.ret (AV.p (Part.one (Cell.v (Value.int IntKind.i64 (14 : Int)))), []))) (Tree.ite ((List.getD l k.toNat noIns).fst == BitVec.ofInt (8 : Nat) (133 : Int)) (Tree.ite (!decide ((List.getD l k.toNat noIns).snd.snd.snd.snd.fst < (1 : Int))) (Tree.ite (decide ((28 : Int) < (List.getD l k.toNat noIns).snd.snd.snd.snd.fst)) (Tree.ret (AV.p (Part.one (Cell.v (Value.int IntKind.i64 (14 : Int)))), [])) (Tree.ret (AV.p (Part.one (Cell.v (Value.int IntKind.i64 (0 : Int)))), []))) (Tree.ret (AV.p (Part.one (Cell.v (Value.int IntKind.i64 (14 : Int)))), []))) (Tree.ret (AV.p (Part.one (Cell.v (Value.int IntKind.i64 (0 : Int)))), [])))) Tree.fail))) (Tree.ite ((List.getD l k.toNat noIns).fst == BitVec.ofInt (8 : Nat) (24 : Int)) (Tree.ite (decC ((0 : Int) ≤ k ∧ k < (↑(List.length l) : (ShA.c (ShC.i IntKind.i64)).den) ∧ List.length l ≤ (140737488355328 : Nat))) (Tree.ite (!wholeB l k.toNat) (Tree.ret (AV.p (Part.one (Cell.v (Value.int IntKind.i64 (13 : Int)))), [])) (Tree.ite (decC ((0 : Int) ≤ k ∧ k < (↑(List.length l) : (ShA.c (ShC.i IntKind.i64)).den))) (Tree.ite (namesB (slotA l k.toNat)) (Tree.ite (!decide (callI l k < (1 : Int))) (Tree.ite (!decide ((↑(List.length l) : Int) ≤ callI l k)) (Tree.ite (decide ((0 : Int) ≤ callI l k) && decide (callI l k < (↑(List.length b) : Int))) (Tree.ite (List.getD b (callI l k).toNat (false, ())).fst (Tree.ret (AV.p (Part.one (Cell.v (Value.int IntKind.i64 (14 : Int)))), [])) (Tree.ret (AV.p (Part.one (Cell.v (Value.int IntKind.i64 (0 : Int)))), []))) Tree.fail) (Tree.ret (AV.p (Part.one (Cell.v (Value.int IntKind.i64 (14 : Int)))), []))) (Tree.ret (AV.p (Part.one (Cell.v (Value.int IntKind.i64 (14 : Int)))), []))) (Tree.ite ((List.getD l k.toNat noIns).fst == BitVec.ofInt (8 : Nat) (133 : Int)) (Tree.ite (!decide ((List.getD l k.toNat noIns).snd.snd.snd.snd.fst < (1 : Int))) (Tree.ite (decide ((28 : Int) < (List.getD l k.toNat noIns).snd.snd.snd.snd.fst)) (Tree.ret (AV.p (Part.one (Cell.v (Value.int IntKind.i64 (14 : Int)))), [])) (Tree.ret (AV.p (Part.one (Cell.v (Value.int IntKind.i64 (0 : Int)))), []))) (Tree.ret (AV.p (Part.one (Cell.v (Value.int IntKind.i64 (14 : Int)))), []))) (Tree.ret (AV.p (Part.one (Cell.v (Value.int IntKind.i64 (0 : Int)))), [])))) Tree.fail)) Tree.fail) (Tree.ite (decC ((0 : Int) ≤ k ∧ k < (↑(List.length l) : (ShA.c (ShC.i IntKind.i64)).den))) (Tree.ite (namesB (slotA l k.toNat)) (Tree.ite (!decide (callI l k < (1 : Int))) (Tree.ite (!decide ((↑(List.length l) : Int) ≤ callI l k)) (Tree.ite (decide ((0 : Int) ≤ callI l k) && decide (callI l k < (↑(List.length b) : Int))) (Tree.ite (List.getD b (callI l k).toNat (false, ())).fst (Tree.ret (AV.p (Part.one (Cell.v (Value.int IntKind.i64 (14 : Int)))), [])) (Tree.ret (AV.p (Part.one (Cell.v (Value.int IntKind.i64 (0 : Int)))), []))) Tree.fail) (Tree.ret (AV.p (Part.one (Cell.v (Value.int IntKind.i64 (14 : Int)))), []))) (Tree.ret (AV.p (Part.one (Cell.v (Value.int IntKind.i64 (14 : Int)))), []))) (Tree.ite ((List.getD l k.toNat noIns).fst == BitVec.ofInt (8 : Nat) (133 : Int)) (Tree.ite (!decide ((List.getD l k.toNat noIns).snd.snd.snd.snd.fst < (1 : Int))) (Tree.ite (decide ((28 : Int) < (List.getD l k.toNat noIns).snd.snd.snd.snd.fst)) (Tree.ret (AV.p (Part.one (Cell.v (Value.int IntKind.i64 (14 : Int)))), [])) (Tree.ret (AV.p (Part.one (Cell.v (Value.int IntKind.i64 (0 : Int)))), []))) (Tree.ret (AV.p (Part.one (Cell.v (Value.int IntKind.i64 (14 : Int)))), []))) (Tree.ret (AV.p (Part.one (Cell.v (Value.int IntKind.i64 (0 : Int)))), [])))) Tree.fail))) (Tree.ret (AV.p (Part.one (Cell.v (Value.int IntKind.i64 (12 : Int)))), []))) (Tree.ret (AV.p (Part.one (Cell.v (Value.int IntKind.i64 (12 : Int)))), [])))) Tree.fail
noncomputable def F_wrong : denAs [.c (.d insT), .c (.i .i64), .c (.d boolsT)] → denObs [] → Tree (AV × List Ob) := fun x y => match x, y with
  | (l, k, b, ()), () => ckP (0 ≤ k ∧ k < l.length ∧ l.length ≤ 140737488355328 ∧ b.length = l.length) (.ret (AV.c (.v (.int .i64 (wrongI l k.toNat b))), []))
theorem ev_wrong : ∀ a, (evalFnL Tryz.prog (lk L_whole) 30 noL Tryz.f49 (Tryz.f49.body.getD .skip) [] (encAs [.c (.d insT), .c (.i .i64), .c (.d boolsT)] (ea_wrong a)) (encOs [] (eo_wrong a))).run = (E_wrong a).run := by
  rintro ⟨l, k, b⟩
  kernel_rfl
theorem fe_wrong : ∀ a y, (F_wrong (ea_wrong a) (eo_wrong a)).run = some y → (E_wrong a).run = some y := by
  rintro ⟨l, k, b⟩ y h
  obtain ⟨⟨h1, h2, h3, h4⟩, h⟩ := ckP_run h
  change 0 ≤ k at h1
  change k < (l.length : Int) at h2
  change l.length ≤ 140737488355328 at h3
  change b.length = l.length at h4
  rw [← h]
  simp only [E_wrong]
  rw [goTa ⟨h1, h2⟩, decP, decP]
  rotate_left
  · first | exact ⟨h1, h2, h3⟩ | exact ⟨h1, h2⟩
  · first | exact ⟨h1, h2, h3⟩ | exact ⟨h1, h2⟩
  change _ = some (AV.c (.v (.int .i64 (wrongI l k.toNat b))), [])
  have hin : (decide (callI l k < 1) || decide ((l.length : Int) ≤ callI l k) || (decide (0 ≤ callI l k) && decide (callI l k < (b.length : Int)))) = true := by
    rw [h4]
    by_cases g1 : callI l k < 1
    · simp [g1]
    · by_cases g2 : (l.length : Int) ≤ callI l k
      · simp [g2]
      · simp; omega
  unfold wrongI wrongX badTo secA
  rw [show ((k.toNat : Nat) : Int) = k by omega]
  simp only [slotA]
  generalize (decide (0 ≤ callI l k) && decide (callI l k < (b.length : Int))) = inb at *
  generalize decide (callI l k < 1) = c1 at *
  generalize decide ((l.length : Int) ≤ callI l k) = c2 at *
  generalize (b.getD (callI l k).toNat (false, ())).1 = sec
  generalize wholeB l k.toNat = whole
  generalize B_known (l.getD k.toNat noIns).1 (l.getD k.toNat noIns).2.1 (l.getD k.toNat noIns).2.2.1 (l.getD k.toNat noIns).2.2.2.1 (l.getD k.toNat noIns).2.2.2.2.1 = kn
  generalize B_writes (l.getD k.toNat noIns).1 (l.getD k.toNat noIns).2.1 (l.getD k.toNat noIns).2.2.1 (l.getD k.toNat noIns).2.2.2.1 (l.getD k.toNat noIns).2.2.2.2.1 = wr
  generalize namesB (l.getD k.toNat noIns) = names
  generalize (BitVec.ofInt 8 10).ult (l.getD k.toNat noIns).2.1 = u1
  generalize (BitVec.ofInt 8 10).ult (l.getD k.toNat noIns).2.2.1 = u2
  generalize ((l.getD k.toNat noIns).2.1 == BitVec.ofInt 8 10) = d10
  generalize ((l.getD k.toNat noIns).1 == BitVec.ofInt 8 24) = wide
  generalize ((l.getD k.toNat noIns).1 == BitVec.ofInt 8 133) = o133
  generalize decide ((l.getD k.toNat noIns).2.2.2.2.1 < 1) = i1
  generalize decide (28 < (l.getD k.toNat noIns).2.2.2.2.1) = i2
  clear h h1 h2 h3 h4
  cases kn
  · rfl
  cases u1
  rotate_left
  · rfl
  cases u2
  rotate_left
  · rfl
  cases d10 <;> cases wr <;> (try rfl) <;> cases wide <;> (try rfl) <;> cases whole <;> (try rfl) <;> cases names <;> (try rfl) <;> cases o133 <;> (try rfl) <;> cases i1 <;> (try rfl) <;> cases i2 <;> (try rfl) <;>
    cases c1 <;> (try rfl) <;> cases c2 <;> (try rfl) <;> cases inb <;> (try cases hin) <;> cases sec <;> rfl
theorem ok_wrong : SummOk Kn Tryz.prog 49 (sumT [.dp insT, .any, .dp boolsT] false [.c (.d insT), .c (.i .i64), .c (.d boolsT)] [] F_wrong) := sumT_view tok_whole Tryz.checked.mixed Tryz.func49 (by kernel_rfl) (by rfl) 30 [] ea_wrong eo_wrong
  (by rintro ⟨l, k, b, ⟨⟩⟩ ⟨⟩; exact ⟨(l, k, b), rfl, rfl⟩) noL 0 (by rintro ⟨⟩; rfl) (noL_ok _ _ _ _ _ _) E_wrong ev_wrong fe_wrong
noncomputable def L_wrong : List (Nat × Summ) := (49, (sumT [.dp insT, .any, .dp boolsT] false [.c (.d insT), .c (.i .i64), .c (.d boolsT)] [] F_wrong)) :: L_whole
theorem tok_wrong : TOk Kn Tryz.prog (lk L_wrong) := lk_cons ok_wrong tok_whole
def ea_To : Slots × Int × Int → denAs [.c (.d insT), .c (.i .i64), .c (.i .i64)] := fun ⟨l, k, d⟩ => (l, k, d, ())
def eo_To : Slots × Int × Int → denObs [] := fun ⟨l, k, d⟩ => ()
noncomputable def E_To : Slots × Int × Int → Tree (AV × List Ob) := fun ⟨l, k, d⟩ => 
Tree.ite (!decide (IntKind.i64.wrap (IntKind.i64.wrap (k + (1 : Int)) + d) < (0 : Int))) (Tree.ite (decide ((↑(List.length l) : Int) ≤ IntKind.i64.wrap (IntKind.i64.wrap (k + (1 : Int)) + d))) (Tree.ret (AV.p (Part.one (Cell.v (Value.int IntKind.i64 (-1 : Int)))), [])) (Tree.ret (AV.p (Part.one (Cell.v (Value.int IntKind.i64 (IntKind.i64.wrap (IntKind.i64.wrap (k + (1 : Int)) + d))))), []))) (Tree.ret (AV.p (Part.one (Cell.v (Value.int IntKind.i64 (-1 : Int)))), []))
noncomputable def F_To : denAs [.c (.d insT), .c (.i .i64), .c (.i .i64)] → denObs [] → Tree (AV × List Ob) := fun x y => match x, y with
  | (l, k, d, ()), () => .ret (AV.c (.v (.int .i64 (toV l.length k d))), [])
theorem ev_To : ∀ a, (evalFnL Tryz.prog (lk L_wrong) 30 noL Tryz.f17 (Tryz.f17.body.getD .skip) [] (encAs [.c (.d insT), .c (.i .i64), .c (.i .i64)] (ea_To a)) (encOs [] (eo_To a))).run = (E_To a).run := by
  rintro ⟨l, k, d⟩
  kernel_rfl
theorem fe_To : ∀ a y, (F_To (ea_To a) (eo_To a)).run = some y → (E_To a).run = some y := by
  rintro ⟨l, k, d⟩ y h
  rw [← h]
  change _ = some (AV.c (.v (.int .i64 (toV l.length k d))), [])
  simp only [E_To]
  unfold toV goI
  cases decide (IntKind.i64.wrap (IntKind.i64.wrap (k + 1) + d) < 0) <;> cases decide ((l.length : Int) ≤ IntKind.i64.wrap (IntKind.i64.wrap (k + 1) + d)) <;> rfl
theorem ok_To : SummOk Kn Tryz.prog 17 (sumT [.dp insT, .any, .any] false [.c (.d insT), .c (.i .i64), .c (.i .i64)] [] F_To) := sumT_view tok_wrong Tryz.checked.mixed Tryz.func17 (by kernel_rfl) (by rfl) 30 [] ea_To eo_To
  (by rintro ⟨l, k, d, ⟨⟩⟩ ⟨⟩; exact ⟨(l, k, d), rfl, rfl⟩) noL 0 (by rintro ⟨⟩; rfl) (noL_ok _ _ _ _ _ _) E_To ev_To fe_To
noncomputable def L_To : List (Nat × Summ) := (17, (sumT [.dp insT, .any, .any] false [.c (.d insT), .c (.i .i64), .c (.i .i64)] [] F_To)) :: L_wrong
theorem tok_To : TOk Kn Tryz.prog (lk L_To) := lk_cons ok_To tok_wrong
def ea_one : Slots × Int × Bools → denAs [.c (.d insT), .c (.d boolsT), .c (.i .i64)] := fun ⟨l, k, b⟩ => (l, b, k, ())
def eo_one : Slots × Int × Bools → denObs [] := fun ⟨l, k, b⟩ => ()
noncomputable def E_one : Slots × Int × Bools → Tree (AV × List Ob) := fun ⟨l, k, b⟩ => 
Tree.ite (decide ((0 : Int) ≤ k) && decide (k < (↑(List.length l) : Int))) (Tree.ite (!B_rknown (List.getD l k.toNat noIns).fst (List.getD l k.toNat noIns).snd.fst (List.getD l k.toNat noIns).snd.snd.fst (List.getD l k.toNat noIns).snd.snd.snd.fst (List.getD l k.toNat noIns).snd.snd.snd.snd.fst) (Tree.ret (AV.p (Part.one (Cell.v (Value.int IntKind.i64 (11 : Int)))), [])) (Tree.ite (!(BitVec.ofInt (8 : Nat) (10 : Int)).ult (List.getD l k.toNat noIns).snd.fst) (Tree.ite (!(BitVec.ofInt (8 : Nat) (10 : Int)).ult (List.getD l k.toNat noIns).snd.snd.fst) (Tree.ite ((List.getD l k.toNat noIns).snd.fst == BitVec.ofInt (8 : Nat) (10 : Int)) (Tree.ite (B_rwrites (List.getD l k.toNat noIns).fst (List.getD l k.toNat noIns).snd.fst (List.getD l k.toNat noIns).snd.snd.fst (List.getD l k.toNat noIns).snd.snd.snd.fst (List.getD l k.toNat noIns).snd.snd.snd.snd.fst) (Tree.ret (AV.p (Part.one (Cell.v (Value.int IntKind.i64 (12 : Int)))), [])) (Tree.ite ((List.getD l k.toNat noIns).fst == BitVec.ofInt (8 : Nat) (24 : Int)) (Tree.ite (IntKind.i64.wrap (k + (1 : Int)) == (↑(List.length l) : Int)) (Tree.ret (AV.p (Part.one (Cell.v (Value.int IntKind.i64 (13 : Int)))), [])) (Tree.ite (decide ((0 : Int) ≤ IntKind.i64.wrap (k + (1 : Int))) && decide (IntKind.i64.wrap (k + (1 : Int)) < (↑(List.length l) : Int))) (Tree.ite (!(List.getD l (IntKind.i64.wrap (k + (1 : Int))).toNat noIns).fst != BitVec.ofInt (8 : Nat) (0 : Int)) (Tree.ite (!(List.getD l (IntKind.i64.wrap (k + (1 : Int))).toNat noIns).snd.fst != BitVec.ofInt (8 : Nat) (0 : Int)) (Tree.ite (!(List.getD l (IntKind.i64.wrap (k + (1 : Int))).toNat noIns).snd.snd.fst != BitVec.ofInt (8 : Nat) (0 : Int)) (Tree.ite (!(List.getD l (IntKind.i64.wrap (k + (1 : Int))).toNat noIns).snd.snd.snd.fst != (0 : Int)) (Tree.ite ((List.getD l k.toNat noIns).snd.snd.fst != BitVec.ofInt (8 : Nat) (0 : Int)) (Tree.ite ((List.getD l (IntKind.i64.wrap (k + (1 : Int))).toNat noIns).snd.snd.snd.snd.fst != (0 : Int)) (Tree.ret (AV.p (Part.one (Cell.v (Value.int IntKind.i64 (13 : Int)))), [])) (Tree.ite (B_rhelper (List.getD l k.toNat noIns).fst (List.getD l k.toNat noIns).snd.fst (List.getD l k.toNat noIns).snd.snd.fst (List.getD l k.toNat noIns).snd.snd.snd.fst (List.getD l k.toNat noIns).snd.snd.snd.snd.fst) (Tree.ite (!decide ((List.getD l k.toNat noIns).snd.snd.snd.snd.fst < (1 : Int))) (Tree.ite (decide ((28 : Int) < (List.getD l k.toNat noIns).snd.snd.snd.snd.fst)) (Tree.ret (AV.p (Part.one (Cell.v (Value.int IntKind.i64 (14 : Int)))), [])) (Tree.ite (B_rnames (List.getD l k.toNat noIns).fst (List.getD l k.toNat noIns).snd.fst (List.getD l k.toNat noIns).snd.snd.fst (List.getD l k.toNat noIns).snd.snd.snd.fst (List.getD l k.toNat noIns).snd.snd.snd.snd.fst) (Tree.ite (!decide (toV (List.length l) k (IntKind.i64.wrap (List.getD l k.toNat noIns).snd.snd.snd.snd.fst) < (1 : Int))) (Tree.ite (decide ((0 : Int) ≤ toV (List.length l) k (IntKind.i64.wrap (List.getD l k.toNat noIns).snd.snd.snd.snd.fst)) && decide (toV (List.length l) k (IntKind.i64.wrap (List.getD l k.toNat noIns).snd.snd.snd.snd.fst) < (↑(List.length b) : Int))) (Tree.ite (List.getD b (toV (List.length l) k (IntKind.i64.wrap (List.getD l k.toNat noIns).snd.snd.snd.snd.fst)).toNat (false, ())).fst (Tree.ret (AV.p (Part.one (Cell.v (Value.int IntKind.i64 (14 : Int)))), [])) (Tree.ret (AV.p (Part.one (Cell.v (Value.int IntKind.i64 (0 : Int)))), []))) Tree.fail) (Tree.ret (AV.p (Part.one (Cell.v (Value.int IntKind.i64 (14 : Int)))), []))) (Tree.ret (AV.p (Part.one (Cell.v (Value.int IntKind.i64 (0 : Int)))), [])))) (Tree.ret (AV.p (Part.one (Cell.v (Value.int IntKind.i64 (14 : Int)))), []))) (Tree.ite (B_rnames (List.getD l k.toNat noIns).fst (List.getD l k.toNat noIns).snd.fst (List.getD l k.toNat noIns).snd.snd.fst (List.getD l k.toNat noIns).snd.snd.snd.fst (List.getD l k.toNat noIns).snd.snd.snd.snd.fst) (Tree.ite (!decide (toV (List.length l) k (IntKind.i64.wrap (List.getD l k.toNat noIns).snd.snd.snd.snd.fst) < (1 : Int))) (Tree.ite (decide ((0 : Int) ≤ toV (List.length l) k (IntKind.i64.wrap (List.getD l k.toNat noIns).snd.snd.snd.snd.fst)) && decide (toV (List.length l) k (IntKind.i64.wrap (List.getD l k.toNat noIns).snd.snd.snd.snd.fst) < (↑(List.length b) : Int))) (Tree.ite (List.getD b (toV (List.length l) k (IntKind.i64.wrap (List.getD l k.toNat noIns).snd.snd.snd.snd.fst)).toNat (false, ())).fst (Tree.ret (AV.p (Part.one (Cell.v (Value.int IntKind.i64 (14 : Int)))), [])) (Tree.ret (AV.p (Part.one (Cell.v (Value.int IntKind.i64 (0 : Int)))), []))) Tree.fail) (Tree.ret (AV.p (Part.one (Cell.v (Value.int IntKind.i64 (14 : Int)))), []))) (Tree.ret (AV.p (Part.one (Cell.v (Value.int IntKind.i64 (0 : Int)))), []))))) (Tree.ite (B_rhelper (List.getD l k.toNat noIns).fst (List.getD l k.toNat noIns).snd.fst (List.getD l k.toNat noIns).snd.snd.fst (List.getD l k.toNat noIns).snd.snd.snd.fst (List.getD l k.toNat noIns).snd.snd.snd.snd.fst) (Tree.ite (!decide ((List.getD l k.toNat noIns).snd.snd.snd.snd.fst < (1 : Int))) (Tree.ite (decide ((28 : Int) < (List.getD l k.toNat noIns).snd.snd.snd.snd.fst)) (Tree.ret (AV.p (Part.one (Cell.v (Value.int IntKind.i64 (14 : Int)))), [])) (Tree.ite (B_rnames (List.getD l k.toNat noIns).fst (List.getD l k.toNat noIns).snd.fst (List.getD l k.toNat noIns).snd.snd.fst (List.getD l k.toNat noIns).snd.snd.snd.fst (List.getD l k.toNat noIns).snd.snd.snd.snd.fst) (Tree.ite (!decide (toV (List.length l) k (IntKind.i64.wrap (List.getD l k.toNat noIns).snd.snd.snd.snd.fst) < (1 : Int))) (Tree.ite (decide ((0 : Int) ≤ toV (List.length l) k (IntKind.i64.wrap (List.getD l k.toNat noIns).snd.snd.snd.snd.fst)) && decide (toV (List.length l) k (IntKind.i64.wrap (List.getD l k.toNat noIns).snd.snd.snd.snd.fst) < (↑(List.length b) : Int))) (Tree.ite (List.getD b (toV (List.length l) k (IntKind.i64.wrap (List.getD l k.toNat noIns).snd.snd.snd.snd.fst)).toNat (false, ())).fst (Tree.ret (AV.p (Part.one (Cell.v (Value.int IntKind.i64 (14 : Int)))), [])) (Tree.ret (AV.p (Part.one (Cell.v (Value.int IntKind.i64 (0 : Int)))), []))) Tree.fail) (Tree.ret (AV.p (Part.one (Cell.v (Value.int IntKind.i64 (14 : Int)))), []))) (Tree.ret (AV.p (Part.one (Cell.v (Value.int IntKind.i64 (0 : Int)))), [])))) (Tree.ret (AV.p (Part.one (Cell.v (Value.int IntKind.i64 (14 : Int)))), []))) (Tree.ite (B_rnames (List.getD l k.toNat noIns).fst (List.getD l k.toNat noIns).snd.fst (List.getD l k.toNat noIns).snd.snd.fst (List.getD l k.toNat noIns).snd.snd.snd.fst (List.getD l k.toNat noIns).snd.snd.snd.snd.fst) (Tree.ite (!decide (toV (List.length l) k (IntKind.i64.wrap (List.getD l k.toNat noIns).snd.snd.snd.snd.fst) < (1 : Int))) (Tree.ite (decide ((0 : Int) ≤ toV (List.length l) k (IntKind.i64.wrap (List.getD l k.toNat noIns).snd.snd.snd.snd.fst)) && decide (toV (List.length l) k (IntKind.i64.wrap (List.getD l k.toNat noIns).snd.snd.snd.snd.fst) < (↑(List.length b) : Int))) (Tree.ite (List.getD b (toV (List.length l) k (IntKind.i64.wrap (List.getD l k.toNat noIns).snd.snd.snd.snd.fst)).toNat (false, ())).fst (Tree.ret (AV.p (Part.one (Cell.v (Value.int IntKind.i64 (14 : Int)))), [])) (Tree.ret (AV.p (Part.one (Cell.v (Value.int IntKind.i64 (0 : Int)))), []))) Tree.fail) (Tree.ret (AV.p (Part.one (Cell.v (Value.int IntKind.i64 (14 : Int)))), []))) (Tree.ret (AV.p (Part.one (Cell.v (Value.int IntKind.i64 (0 : Int)))), []))))) (Tree.ret (AV.p (Part.one (Cell.v (Value.int IntKind.i64 (13 : Int)))), []))) (Tree.ret (AV.p (Part.one (Cell.v (Value.int IntKind.i64 (13 : Int)))), []))) (Tree.ret (AV.p (Part.one (Cell.v (Value.int IntKind.i64 (13 : Int)))), []))) (Tree.ret (AV.p (Part.one (Cell.v (Value.int IntKind.i64 (13 : Int)))), []))) Tree.fail)) (Tree.ite (B_rhelper (List.getD l k.toNat noIns).fst (List.getD l k.toNat noIns).snd.fst (List.getD l k.toNat noIns).snd.snd.fst (List.getD l k.toNat noIns).snd.snd.snd.fst (List.getD l k.toNat noIns).snd.snd.snd.snd.fst) (Tree.ite (!decide ((List.getD l k.toNat noIns).snd.snd.snd.snd.fst < (1 : Int))) (Tree.ite (decide ((28 : Int) < (List.getD l k.toNat noIns).snd.snd.snd.snd.fst)) (Tree.ret (AV.p (Part.one (Cell.v (Value.int IntKind.i64 (14 : Int)))), [])) (Tree.ite (B_rnames (List.getD l k.toNat noIns).fst (List.getD l k.toNat noIns).snd.fst (List.getD l k.toNat noIns).snd.snd.fst (List.getD l k.toNat noIns).snd.snd.snd.fst (List.getD l k.toNat noIns).snd.snd.snd.snd.fst) (Tree.ite (!decide (toV (List.length l) k (IntKind.i64.wrap (List.getD l k.toNat noIns).snd.snd.snd.snd.fst) < (1 : Int))) (Tree.ite (decide ((0 : Int) ≤ toV (List.length l) k (IntKind.i64.wrap (List.getD l k.toNat noIns).snd.snd.snd.snd.fst)) && decide (toV (List.length l) k (IntKind.i64.wrap (List.getD l k.toNat noIns).snd.snd.snd.snd.fst) < (↑(List.length b) : Int))) (Tree.ite (List.getD b (toV (List.length l) k (IntKind.i64.wrap (List.getD l k.toNat noIns).snd.snd.snd.snd.fst)).toNat (false, ())).fst (Tree.ret (AV.p (Part.one (Cell.v (Value.int IntKind.i64 (14 : Int)))), [])) (Tree.ret (AV.p (Part.one (Cell.v (Value.int IntKind.i64 (0 : Int)))), []))) Tree.fail) (Tree.ret (AV.p (Part.one (Cell.v (Value.int IntKind.i64 (14 : Int)))), []))) (Tree.ret (AV.p (Part.one (Cell.v (Value.int IntKind.i64 (0 : Int)))), [])))) (Tree.ret (AV.p (Part.one (Cell.v (Value.int IntKind.i64 (14 : Int)))), []))) (Tree.ite (B_rnames (List.getD l k.toNat noIns).fst (List.getD l k.toNat noIns).snd.fst (List.getD l k.toNat noIns).snd.snd.fst (List.getD l k.toNat noIns).snd.snd.snd.fst (List.getD l k.toNat noIns).snd.snd.snd.snd.fst) (Tree.ite (!decide (toV (List.length l) k (IntKind.i64.wrap (List.getD l k.toNat noIns).snd.snd.snd.snd.fst) < (1 : Int))) (Tree.ite (decide ((0 : Int) ≤ toV (List.length l) k (IntKind.i64.wrap (List.getD l k.toNat noIns).snd.snd.snd.snd.fst)) && decide (toV (List.length l) k (IntKind.i64.wrap (List.getD l k.toNat noIns).snd.snd.snd.snd.fst) < (↑(List.length b) : Int))) (Tree.ite (List.getD b (toV (List.length l) k (IntKind.i64.wrap (List.getD l k.toNat noIns).snd.snd.snd.snd.fst)).toNat (false, ())).fst (Tree.ret (AV.p (Part.one (Cell.v (Value.int IntKind.i64 (14 : Int)))), [])) (Tree.ret (AV.p (Part.one (Cell.v (Value.int IntKind.i64 (0 : Int)))), []))) Tree.fail) (Tree.ret (AV.p (Part.one (Cell.v (Value.int IntKind.i64 (14 : Int)))), []))) (Tree.ret (AV.p (Part.one (Cell.v (Value.int IntKind.i64 (0 : Int)))), [])))))) (Tree.ite ((List.getD l k.toNat noIns).fst == BitVec.ofInt (8 : Nat) (24 : Int)) (Tree.ite (IntKind.i64.wrap (k + (1 : Int)) == (↑(List.length l) : Int)) (Tree.ret (AV.p (Part.one (Cell.v (Value.int IntKind.i64 (13 : Int)))), [])) (Tree.ite (decide ((0 : Int) ≤ IntKind.i64.wrap (k + (1 : Int))) && decide (IntKind.i64.wrap (k + (1 : Int)) < (↑(List.length l) : Int))) (Tree.ite (!(List.getD l (IntKind.i64.wrap (k + (1 : Int))).toNat noIns).fst != BitVec.ofInt (8 : Nat) (0 : Int)) (Tree.ite (!(List.getD l (IntKind.i64.wrap (k + (1 : Int))).toNat noIns).snd.fst != BitVec.ofInt (8 : Nat) (0 : Int)) (Tree.ite (!(List.getD l (IntKind.i64.wrap (k + (1 : Int))).toNat noIns).snd.snd.fst != BitVec.ofInt (8 : Nat) (0 : Int)) (Tree.ite (!(List.getD l (IntKind.i64.wrap (k + (1 : Int))).toNat noIns).snd.snd.snd.fst != (0 : Int)) (Tree.ite ((List.getD l k.toNat noIns).snd.snd.fst != BitVec.ofInt (8 : Nat) (0 : Int)) (Tree.ite ((List.getD l (IntKind.i64.wrap (k + (1 : Int))).toNat noIns).snd.snd.snd.snd.fst != (0 : Int)) (Tree.ret (AV.p (Part.one (Cell.v (Value.int IntKind.i64 (13 : Int)))), [])) (Tree.ite (B_rhelper (List.getD l k.toNat noIns).fst (List.getD l k.toNat noIns).snd.fst (List.getD l k.toNat noIns).snd.snd.fst (List.getD l k.toNat noIns).snd.snd.snd.fst (List.getD l k.toNat noIns).snd.snd.snd.snd.fst) (Tree.ite (!decide ((List.getD l k.toNat noIns).snd.snd.snd.snd.fst < (1 : Int))) (Tree.ite (decide ((28 : Int) < (List.getD l k.toNat noIns).snd.snd.snd.snd.fst)) (Tree.ret (AV.p (Part.one (Cell.v (Value.int IntKind.i64 (14 : Int)))), [])) (Tree.ite (B_rnames (List.getD l k.toNat noIns).fst (List.getD l k.toNat noIns).snd.fst (List.getD l k.toNat noIns).snd.snd.fst (List.getD l k.toNat noIns).snd.snd.snd.fst (List.getD l k.toNat noIns).snd.snd.snd.snd.fst) (Tree.ite (!decide (toV (List.length l) k (IntKind.i64.wrap (List.getD l k.toNat noIns).snd.snd.snd.snd.fst) < (1 : Int))) (Tree.ite (decide ((0 : Int) ≤ toV (List.length l) k (IntKind.i64.wrap (List.getD l k.toNat noIns).snd.snd.snd.snd.fst)) && decide (toV (List.length l) k (IntKind.i64.wrap (List.getD l k.toNat noIns).snd.snd.snd.snd.fst) < (↑(List.length b) : Int))) (Tree.ite (List.getD b (toV (List.length l) k (IntKind.i64.wrap (List.getD l k.toNat noIns).snd.snd.snd.snd.fst)).toNat (false, ())).fst (Tree.ret (AV.p (Part.one (Cell.v (Value.int IntKind.i64 (14 : Int)))), [])) (Tree.ret (AV.p (Part.one (Cell.v (Value.int IntKind.i64 (0 : Int)))), []))) Tree.fail) (Tree.ret (AV.p (Part.one (Cell.v (Value.int IntKind.i64 (14 : Int)))), []))) (Tree.ret (AV.p (Part.one (Cell.v (Value.int IntKind.i64 (0 : Int)))), [])))) (Tree.ret (AV.p (Part.one (Cell.v (Value.int IntKind.i64 (14 : Int)))), []))) (Tree.ite (B_rnames (List.getD l k.toNat noIns).fst (List.getD l k.toNat noIns).snd.fst (List.getD l k.toNat noIns).snd.snd.fst (List.getD l k.toNat noIns).snd.snd.snd.fst (List.getD l k.toNat noIns).snd.snd.snd.snd.fst) (Tree.ite (!decide (toV (List.length l) k (IntKind.i64.wrap (List.getD l k.toNat noIns).snd.snd.snd.snd.fst) < (1 : Int))) (Tree.ite (decide ((0 : Int) ≤ toV (List.length l) k (IntKind.i64.wrap (List.getD l k.toNat noIns).snd.snd.snd.snd.fst)) && decide (toV (List.length l) k (IntKind.i64.wrap (List.getD l k.toNat noIns).snd.snd.snd.snd.fst) < (↑(List.length b) : Int))) (Tree.ite (List.getD b (toV (List.length l) k (IntKind.i64.wrap (List.getD l k.toNat noIns).snd.snd.snd.snd.fst)).toNat (false, ())).fst (Tree.ret (AV.p (Part.one (Cell.v (Value.int IntKind.i64 (14 : Int)))), [])) (Tree.ret (AV.p (Part.one (Cell.v (Value.int IntKind.i64 (0 : Int)))), []))) Tree.fail) (Tree.ret (AV.p (Part.one (Cell.v (Value.int IntKind.i64 (14 : Int)))), []))) (Tree.ret (AV.p (Part.one (Cell.v (Value.int IntKind.i64 (0 : Int)))), []))))) (Tree.ite (B_rhelper (List.getD l k.toNat noIns).fst (List.getD l k.toNat noIns).snd.fst (List.getD l k.toNat noIns).snd.snd.fst (List.getD l k.toNat noIns).snd.snd.snd.fst (List.getD l k.toNat noIns).snd.snd.snd.snd.fst) (Tree.ite (!decide ((List.getD l k.toNat noIns).snd.snd.snd.snd.fst < (1 : Int))) (Tree.ite (decide ((28 : Int) < (List.getD l k.toNat noIns).snd.snd.snd.snd.fst)) (Tree.ret (AV.p (Part.one (Cell.v (Value.int IntKind.i64 (14 : Int)))), [])) (Tree.ite (B_rnames (List.getD l k.toNat noIns).fst (List.getD l k.toNat noIns).snd.fst (List.getD l k.toNat noIns).snd.snd.fst (List.getD l k.toNat noIns).snd.snd.snd.fst (List.getD l k.toNat noIns).snd.snd.snd.snd.fst) (Tree.ite (!decide (toV (List.length l) k (IntKind.i64.wrap (List.getD l k.toNat noIns).snd.snd.snd.snd.fst) < (1 : Int))) (Tree.ite (decide ((0 : Int) ≤ toV (List.length l) k (IntKind.i64.wrap (List.getD l k.toNat noIns).snd.snd.snd.snd.fst)) && decide (toV (List.length l) k (IntKind.i64.wrap (List.getD l k.toNat noIns).snd.snd.snd.snd.fst) < (↑(List.length b) : Int))) (Tree.ite (List.getD b (toV (List.length l) k (IntKind.i64.wrap (List.getD l k.toNat noIns).snd.snd.snd.snd.fst)).toNat (false, ())).fst (Tree.ret (AV.p (Part.one (Cell.v (Value.int IntKind.i64 (14 : Int)))), [])) (Tree.ret (AV.p (Part.one (Cell.v (Value.int IntKind.i64 (0 : Int)))), []))) Tree.fail) (Tree.ret (AV.p (Part.one (Cell.v (Value.int IntKind.i64 (14 : Int)))), []))) (Tree.ret (AV.p (Part.one (Cell.v (Value.int IntKind.i64 (0 : Int)))), [])))) (Tree.ret (AV.p (Part.one (Cell.v (Value.int IntKind.i64 (14 : Int)))), []))) (Tree.ite (B_rnames (List.getD l k.toNat noIns).fst (List.getD l k.toNat noIns).snd.fst (List.getD l k.toNat noIns).snd.snd.fst (List.getD l k.toNat noIns).snd.snd.snd.fst (List.getD l k.toNat noIns).snd.snd.snd.snd.fst) (Tree.ite (!decide (toV (List.length l) k (IntKind.i64.wrap (List.getD l k.toNat noIns).snd.snd.snd.snd.fst) < (1 : Int))) (Tree.ite (decide ((0 : Int) ≤ toV (List.length l) k (IntKind.i64.wrap (List.getD l k.toNat noIns).snd.snd.snd.snd.fst)) && decide (toV (List.length l) k (IntKind.i64.wrap (List.getD l k.toNat noIns).snd.snd.snd.snd.fst) < (↑(List.length b) : Int))) (Tree.ite (List.getD b (toV (List.length l) k (IntKind.i64.wrap (List.getD l k.toNat noIns).snd.snd.snd.snd.fst)).toNat (false, ())).fst (Tree.ret (AV.p (Part.one (Cell.v (Value.int IntKind.i64 (14 : Int)))), [])) (Tree.ret (AV.p (Part.one (Cell.v (Value.int IntKind.i64 (0 : Int)))), []))) Tree.fail) (Tree.ret (AV.p (Part.one (Cell.v (Value.int IntKind.i64 (14 : Int)))), []))) (Tree.ret (AV.p (Part.one (Cell.v (Value.int IntKind.i64 (0 : Int)))), []))))) (Tree.ret (AV.p (Part.one (Cell.v (Value.int IntKind.i64 (13 : Int)))), []))) (Tree.ret (AV.p (Part.one (Cell.v (Value.int IntKind.i64 (13 : Int)))), []))) (Tree.ret (AV.p (Part.one (Cell.v (Value.int IntKind.i64 (13 : Int)))), []))) (Tree.ret (AV.p (Part.one (Cell.v (Value.int IntKind.i64 (13 : Int)))), []))) Tree.fail)) (Tree.ite (B_rhelper (List.getD l k.toNat noIns).fst (List.getD l k.toNat noIns).snd.fst (List.getD l k.toNat noIns).snd.snd.fst (List.getD l k.toNat noIns).snd.snd.snd.fst (List.getD l k.toNat noIns).snd.snd.snd.snd.fst) (Tree.ite (!decide ((List.getD l k.toNat noIns).snd.snd.snd.snd.fst < (1 : Int))) (Tree.ite (decide ((28 : Int) < (List.getD l k.toNat noIns).snd.snd.snd.snd.fst)) (Tree.ret (AV.p (Part.one (Cell.v (Value.int IntKind.i64 (14 : Int)))), [])) (Tree.ite (B_rnames (List.getD l k.toNat noIns).fst (List.getD l k.toNat noIns).snd.fst (List.getD l k.toNat noIns).snd.snd.fst (List.getD l k.toNat noIns).snd.snd.snd.fst (List.getD l k.toNat noIns).snd.snd.snd.snd.fst) (Tree.ite (!decide (toV (List.length l) k (IntKind.i64.wrap (List.getD l k.toNat noIns).snd.snd.snd.snd.fst) < (1 : Int))) (Tree.ite (decide ((0 : Int) ≤ toV (List.length l) k (IntKind.i64.wrap (List.getD l k.toNat noIns).snd.snd.snd.snd.fst)) && decide (toV (List.length l) k (IntKind.i64.wrap (List.getD l k.toNat noIns).snd.snd.snd.snd.fst) < (↑(List.length b) : Int))) (Tree.ite (List.getD b (toV (List.length l) k (IntKind.i64.wrap (List.getD l k.toNat noIns).snd.snd.snd.snd.fst)).toNat (false, ())).fst (Tree.ret (AV.p (Part.one (Cell.v (Value.int IntKind.i64 (14 : Int)))), [])) (Tree.ret (AV.p (Part.one (Cell.v (Value.int IntKind.i64 (0 : Int)))), []))) Tree.fail) (Tree.ret (AV.p (Part.one (Cell.v (Value.int IntKind.i64 (14 : Int)))), []))) (Tree.ret (AV.p (Part.one (Cell.v (Value.int IntKind.i64 (0 : Int)))), [])))) (Tree.ret (AV.p (Part.one (Cell.v (Value.int IntKind.i64 (14 : Int)))), []))) (Tree.ite (B_rnames (List.getD l k.toNat noIns).fst (List.getD l k.toNat noIns).snd.fst (List.getD l k.toNat noIns).snd.snd.fst (List.getD l k.toNat noIns).snd.snd.snd.fst (List.getD l k.toNat noIns).snd.snd.snd.snd.fst) (Tree.ite (!decide (toV (List.length l) k (IntKind.i64.wrap (List.getD l k.toNat noIns).snd.snd.snd.snd.fst) < (1 : Int))) (Tree.ite (decide ((0 : Int) ≤ toV (List.length l) k (IntKind.i64.wrap (List.getD l k.toNat noIns).snd.snd.snd.snd.fst)) && decide (toV (List.length l) k (IntKind.i64.wrap (List.getD l k.toNat noIns).snd.snd.snd.snd.fst) < (↑(List.length b) : Int))) (Tree.ite (List.getD b (toV (List.length l) k (IntKind.i64.wrap (List.getD l k.toNat noIns).snd.snd.snd.snd.fst)).toNat (false, ())).fst (Tree.ret (AV.p (Part.one (Cell.v (Value.int IntKind.i64 (14 : Int)))), [])) (Tree.ret (AV.p (Part.one (Cell.v (Value.int IntKind.i64 (0 : Int)))), []))) Tree.fail) (Tree.ret (AV.p (Part.one (Cell.v (Value.int IntKind.i64 (14 : Int)))), []))) (Tree.ret (AV.p (Part.one (Cell.v (Value.int IntKind.i64 (0 : Int)))), [])))))) (Tree.ret (AV.p (Part.one (Cell.v (Value.int IntKind.i64 (12 : Int)))), []))) (Tree.ret (AV.p (Part.one (Cell.v (Value.int IntKind.i64 (12 : Int)))), [])))) Tree.fail
noncomputable def F_one : denAs [.c (.d insT), .c (.d boolsT), .c (.i .i64)] → denObs [] → Tree (AV × List Ob) := fun x y => match x, y with
  | (l, b, k, ()), () => ckP (0 ≤ k ∧ k < l.length ∧ l.length ≤ 140737488355328 ∧ b.length = l.length) (.ret (AV.c (.v (.int .i64 (wrongI l k.toNat b))), []))
theorem ev_one : ∀ a, (evalFnL Tryz.prog (lk L_To) 30 noL Tryz.f33 (Tryz.f33.body.getD .skip) [] (encAs [.c (.d insT), .c (.d boolsT), .c (.i .i64)] (ea_one a)) (encOs [] (eo_one a))).run = (E_one a).run := by
  rintro ⟨l, k, b⟩
  kernel_rfl
theorem fe_one : ∀ a y, (F_one (ea_one a) (eo_one a)).run = some y → (E_one a).run = some y := by
  rintro ⟨l, k, b⟩ y h
  obtain ⟨⟨h1, h2, h3, h4⟩, h⟩ := ckP_run h
  change 0 ≤ k at h1
  change k < (l.length : Int) at h2
  change l.length ≤ 140737488355328 at h3
  change b.length = l.length at h4
  rw [← h]
  simp only [E_one, rk_eq, rw_eq]
  rw [goTa ⟨h1, h2⟩]
  change _ = some (AV.c (.v (.int .i64 (wrongI l k.toNat b))), [])
  rw [wrap64 (n := k + 1) (by omega) (by omega), show (k + 1).toNat = k.toNat + 1 by omega]
  by_cases hkn : B_known (l.getD k.toNat noIns).1 (l.getD k.toNat noIns).2.1 (l.getD k.toNat noIns).2.2.1 (l.getD k.toNat noIns).2.2.2.1 (l.getD k.toNat noIns).2.2.2.2.1 = true
  rotate_left
  · rw [Bool.not_eq_true] at hkn; unfold wrongI wrongX; simp only [slotA]; rw [hkn]; rfl
  obtain ⟨k1, k2, _⟩ := kn_facts _ _ _ _ _ hkn
  simp only [k1, k2]
  unfold wrongI wrongX badTo secA
  rw [show ((k.toNat : Nat) : Int) = k by omega]
  simp only [slotA, hkn]
  have hto : toV l.length k (IntKind.i64.wrap (l.getD k.toNat noIns).2.2.2.2.1) = bif decide (callI l k < 0) || decide ((l.length : Int) ≤ callI l k) then -1 else callI l k := rfl
  have hw : wholeB l k.toNat = bif decide (l.length ≤ k.toNat + 1) then false else
    (l.getD (k.toNat + 1) noIns).1 == BitVec.ofInt 8 0 && ((l.getD (k.toNat + 1) noIns).2.1 == BitVec.ofInt 8 0 && ((l.getD (k.toNat + 1) noIns).2.2.1 == BitVec.ofInt 8 0 && ((l.getD (k.toNat + 1) noIns).2.2.2.1 == 0 &&
      ((bif (l.getD k.toNat noIns).2.2.1 == BitVec.ofInt 8 0 then 0 else (l.getD (k.toNat + 1) noIns).2.2.2.2.1) == 0)))) := rfl
  rw [hw]
  have e1 : (k + 1 == (l.length : Int)) = decide (l.length ≤ k.toNat + 1) := by
    by_cases g : k + 1 = (l.length : Int)
    · rw [decide_eq_true (by omega), g]; simp
    · rw [decide_eq_false (by omega)]; simp [g]
  have e2 : (decide (0 ≤ k + 1) && decide (k + 1 < (l.length : Int))) = !decide (l.length ≤ k.toNat + 1) := by
    by_cases g : k + 1 = (l.length : Int)
    · rw [decide_eq_true (p := l.length ≤ k.toNat + 1) (by omega), decide_eq_false (p := k + 1 < (l.length : Int)) (by omega)]; simp
    · rw [decide_eq_false (p := l.length ≤ k.toNat + 1) (by omega), decide_eq_true (p := k + 1 < (l.length : Int)) (by omega), decide_eq_true (by omega)]; rfl
  rw [e1, e2]
  have e3 : decide (toV l.length k (IntKind.i64.wrap (l.getD k.toNat noIns).2.2.2.2.1) < 1) = (decide (callI l k < 1) || decide ((l.length : Int) ≤ callI l k)) := by
    rw [hto]
    by_cases g1 : callI l k < 0
    · simp [g1]; omega
    · by_cases g2 : (l.length : Int) ≤ callI l k
      · simp [g2]
      · simp [g1, g2]
  have hin : (decide (callI l k < 1) || decide ((l.length : Int) ≤ callI l k)) = false → (decide (0 ≤ toV l.length k (IntKind.i64.wrap (l.getD k.toNat noIns).2.2.2.2.1)) && decide (toV l.length k (IntKind.i64.wrap (l.getD k.toNat noIns).2.2.2.2.1) < (b.length : Int))) = true ∧
    (b.getD (toV l.length k (IntKind.i64.wrap (l.getD k.toNat noIns).2.2.2.2.1)).toNat (false, ())).1 = (b.getD (callI l k).toNat (false, ())).1 := fun g => by
    rw [Bool.or_eq_false_iff, decide_eq_false_iff_not, decide_eq_false_iff_not] at g
    have e : toV l.length k (IntKind.i64.wrap (l.getD k.toNat noIns).2.2.2.2.1) = callI l k := by rw [hto, decide_eq_false (by omega), decide_eq_false g.2]; rfl
    rw [e, h4]
    refine ⟨?_, rfl⟩
    simp; omega
  rw [e3]
  generalize (decide (0 ≤ toV l.length k (IntKind.i64.wrap (l.getD k.toNat noIns).2.2.2.2.1)) && decide (toV l.length k (IntKind.i64.wrap (l.getD k.toNat noIns).2.2.2.2.1) < (b.length : Int))) = inb at *
  generalize (b.getD (toV l.length k (IntKind.i64.wrap (l.getD k.toNat noIns).2.2.2.2.1)).toNat (false, ())).1 = sec' at *
  clear hto hw e1 e2 e3 hkn k1 k2 h h1 h2 h3 h4
  generalize decide (callI l k < 1) = c1 at *
  generalize decide ((l.length : Int) ≤ callI l k) = c2 at *
  generalize (b.getD (callI l k).toNat (false, ())).1 = sec at *
  generalize decide (l.length ≤ k.toNat + 1) = dl
  simp only [bne, namesB]
  rw [bif0]
  have hop : ((l.getD k.toNat noIns).1 == BitVec.ofInt 8 133) = false ∨ ((l.getD k.toNat noIns).1 == BitVec.ofInt 8 24) = false := by
    generalize (l.getD k.toNat noIns).1 = o
    revert o; decide +kernel
  generalize B_writes (l.getD k.toNat noIns).1 (l.getD k.toNat noIns).2.1 (l.getD k.toNat noIns).2.2.1 (l.getD k.toNat noIns).2.2.2.1 (l.getD k.toNat noIns).2.2.2.2.1 = wr
  generalize (BitVec.ofInt 8 10).ult (l.getD k.toNat noIns).2.1 = u1
  generalize (BitVec.ofInt 8 10).ult (l.getD k.toNat noIns).2.2.1 = u2
  generalize ((l.getD k.toNat noIns).2.1 == BitVec.ofInt 8 10) = d10
  generalize ((l.getD k.toNat noIns).1 == BitVec.ofInt 8 24) = wide at *
  generalize ((l.getD k.toNat noIns).1 == BitVec.ofInt 8 133) = o133 at *
  generalize ((l.getD k.toNat noIns).2.2.1 == BitVec.ofInt 8 0) = s0
  generalize ((l.getD k.toNat noIns).2.2.1 == BitVec.ofInt 8 1) = s1
  generalize ((l.getD k.toNat noIns).2.2.1 == BitVec.ofInt 8 4) = s4
  generalize decide ((l.getD k.toNat noIns).2.2.2.2.1 < 1) = i1
  generalize decide (28 < (l.getD k.toNat noIns).2.2.2.2.1) = i2
  generalize ((l.getD (k.toNat + 1) noIns).1 == BitVec.ofInt 8 0) = y1
  generalize ((l.getD (k.toNat + 1) noIns).2.1 == BitVec.ofInt 8 0) = y2
  generalize ((l.getD (k.toNat + 1) noIns).2.2.1 == BitVec.ofInt 8 0) = y3
  generalize ((l.getD (k.toNat + 1) noIns).2.2.2.1 == 0) = y4
  generalize ((l.getD (k.toNat + 1) noIns).2.2.2.2.1 == 0) = y5
  cases u1
  rotate_left
  · rfl
  cases u2
  rotate_left
  · rfl
  have hd : (c1 || c2) = true ∨ (c1 || c2) = false ∧ inb = true ∧ sec' = sec := by
    cases hc : (c1 || c2)
    · exact .inr ⟨rfl, hin hc⟩
    · exact .inl rfl
  clear hin
  rcases hd with hd | ⟨hd, rfl, rfl⟩ <;> generalize (c1 || c2) = c at * <;> subst hd <;> cases d10 <;> cases wr <;> (try rfl) <;> cases wide <;> cases o133 <;> (try rfl) <;> (try (rcases hop with hop | hop <;> cases hop)) <;>
    cases dl <;> (try rfl) <;> cases y1 <;> (try rfl) <;> cases y2 <;> (try rfl) <;> cases y3 <;> (try rfl) <;> cases y4 <;> (try rfl) <;> cases s0 <;> (try rfl) <;> cases y5 <;> (try rfl) <;> cases s1 <;> (try rfl) <;> cases s4 <;> (try rfl) <;> cases i1 <;> (try rfl) <;> cases i2 <;> (try rfl) <;> cases sec' <;> rfl
theorem ok_one : SummOk Kn Tryz.prog 33 (sumT [.dp insT, .dp boolsT, .any] false [.c (.d insT), .c (.d boolsT), .c (.i .i64)] [] F_one) := sumT_view tok_To Tryz.checked.mixed Tryz.func33 (by kernel_rfl) (by rfl) 30 [] ea_one eo_one
  (by rintro ⟨l, b, k, ⟨⟩⟩ ⟨⟩; exact ⟨(l, k, b), rfl, rfl⟩) noL 0 (by rintro ⟨⟩; rfl) (noL_ok _ _ _ _ _ _) E_one ev_one fe_one
noncomputable def L_one : List (Nat × Summ) := (33, (sumT [.dp insT, .dp boolsT, .any] false [.c (.d insT), .c (.d boolsT), .c (.i .i64)] [] F_one)) :: L_To
theorem tok_one : TOk Kn Tryz.prog (lk L_one) := lk_cons ok_one tok_To
end Go.Proofs.YtpocmhfgnpgikaaGreatDoor
