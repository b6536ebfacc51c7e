/-
  The contracts of the package's loops over slots (written by our own gen_ind.py).
-/
import Derived.Test.YtpocmhfgnpgikaaGreatDoorInC
import Derived.Test.YtpocmhfgnpgikaaGreatDoorShelf
import Derived.Test.YtpocmhfgnpgikaaGreatDoorSzAI
namespace Go.Proofs.YtpocmhfgnpgikaaGreatDoor
open Go Go.Sy Go.Sz Go.In Go.Proofs.YtpocmhfgnpgikaaGreatDoor
set_option linter.unusedVariables false
set_option linter.unusedSimpArgs false
set_option linter.constructorNameAsVariable false
set_option maxRecDepth 100000
noncomputable abbrev c_sec : Code := Tryz.f27.body.getD .skip
def p_sec : List Nat := [0, 1, 0, 1, 1]
def sh_sec : Shape := ⟨[(0, .c (.d insT)), (3, .c (.h 0)), (4, .c (.i .i64))], [.row boolsT]⟩
@[reducible] def A_sec : Type := Slots × Int × Bools
def e_sec : A_sec → sh_sec.den := fun ⟨l, i, o⟩ => ((l, (), i, ()), (o, ()))
def v_sec : sh_sec.den → A_sec := fun d => match d with
  | ((l, (), i, ()), (o, ())) => (l, i, o)
def I_sec : A_sec → Prop := fun ⟨l, i, o⟩ => 1 ≤ i ∧ l.length ≤ 140737488355328 ∧ o.length = l.length ∧ ∀ j : Nat, (j : Int) < i → (o.getD j (false, ())).1 = secB l j
noncomputable def G_sec : A_sec → Tree (Ex × St) := fun ⟨l, i, o⟩ => .ret (.exit 0, ⟨[(3, .p (.one (.h 0)))], [(0, .row boolsT (secs l))], 1⟩)
noncomputable def orc_sec : Orc := ⟨sh_sec, [], [3], [], fun d => ckP (I_sec (v_sec d)) (G_sec (v_sec d))⟩
noncomputable def LT_sec : LT := oneL p_sec orc_sec (noL)
noncomputable def T_sec : Slots × Int × Bools → Tree (A_sec ⊕ (Ex × St)) := fun ⟨l, i, o⟩ => 
Tree.ite (decide (i < (↑(List.length l) : Int))) (Tree.ite (decide ((0 : Int) ≤ IntKind.i64.wrap (i - (1 : Int))) && decide (IntKind.i64.wrap (i - (1 : Int)) < (↑(List.length l) : Int))) (Tree.ite ((List.getD l (IntKind.i64.wrap (i - (1 : Int))).toNat noIns).fst == BitVec.ofInt (8 : Nat) (24 : Int)) (Tree.ite (decide ((0 : Int) ≤ IntKind.i64.wrap (i - (1 : Int))) && decide (IntKind.i64.wrap (i - (1 : Int)) < (↑(List.length o) : Int))) (Tree.ite (decide ((0 : Int) ≤ i) && decide (i < (↑(List.length o) : Int))) (Tree.ret (Sum.inl (l, IntKind.i64.wrap (i + (1 : Int)), List.set o i.toNat (!(List.getD o (IntKind.i64.wrap (i - (1 : Int))).toNat (false, ())).fst, (List.getD o i.toNat (false, ())).snd)))) Tree.fail) Tree.fail) (Tree.ite (decide ((0 : Int) ≤ i) && decide (i < (↑(List.length o) : Int))) (Tree.ret (Sum.inl (l, IntKind.i64.wrap (i + (1 : Int)), List.set o i.toNat (false, (List.getD o i.toNat (false, ())).snd)))) Tree.fail)) Tree.fail) (Tree.ret (Sum.inr (Ex.exit (0 : Nat), { env := [((3 : Nat), AV.p (Part.one (Cell.h (0 : Nat))))], hp := [((0 : Nat), Ob.row boolsT o)], nx := (1 : Nat) })))
theorem turn_sec : ∀ a : A_sec, (turnT 0 orc_sec (evalCode Tryz.prog (lk L_one) Tryz.f27.ntmps 0 20 LT_sec (bodyAt c_sec p_sec) false (0 :: p_sec)) (sh_sec.enc (e_sec a))).run = ((T_sec a).bind fun s => .ret (turnV sh_sec e_sec s)).run := by
  rintro ⟨l, i, o⟩
  kernel_rfl
def μ_sec : A_sec → Nat := fun ⟨l, i, o⟩ => l.length - i.toNat
theorem step_sec : ∀ a : A_sec, I_sec a → (∃ a', (T_sec a).run = some (.inl a') ∧ I_sec a' ∧ μ_sec a' < μ_sec a ∧ (G_sec a').run = (G_sec a).run) ∨ (∃ y, (T_sec a).run = some (.inr y) ∧ (G_sec a).run = some y ∧ ((∃ id, y.1 = .exit id) ∨ y.1 = .ret)) := by
  rintro ⟨l, i, o⟩ ⟨h1, h2, h3, h4⟩
  simp only [T_sec]
  by_cases hi : i < l.length
  · left
    rw [goTd hi, wrap64 (n := i - 1) (by omega) (by omega), goTa ⟨by omega, by omega⟩, wrap64 (n := i + 1) (by omega) (by omega)]
    have e0 : i.toNat = (i - 1).toNat + 1 := by omega
    have es : secB l i.toNat = (opA l (i - 1).toNat == BitVec.ofInt 8 24 && !secB l (i - 1).toNat) := by rw [e0]; rfl
    have hp := h4 (i - 1).toNat (by omega)
    have key : ∀ (v : Bool) (u : Unit), v = secB l i.toNat → ∀ j : Nat, (j : Int) < i + 1 → ((o.set i.toNat (v, u)).getD j (false, ())).1 = secB l j := fun v u hv j hj => by
      rw [getD_set _ _ _ _ _ (by omega)]
      by_cases e : j = i.toNat
      · rw [if_pos e, e]; exact hv
      · rw [if_neg e]; exact h4 j (by omega)
    cases ho : ((l.getD (i - 1).toNat noIns).1 == BitVec.ofInt 8 24) with
    | true =>
      rw [goT rfl, goTa ⟨by omega, by omega⟩, goTa ⟨by omega, by omega⟩]
      refine ⟨_, rfl, ⟨by omega, h2, by rw [List.length_set]; exact h3, key _ _ ?_⟩, by simp only [μ_sec]; omega, rfl⟩
      rw [es, hp]
      change _ = (((l.getD (i - 1).toNat noIns).1 == BitVec.ofInt 8 24) && _)
      rw [ho]; rfl
    | false =>
      rw [goF rfl, goTa ⟨by omega, by omega⟩]
      refine ⟨_, rfl, ⟨by omega, h2, by rw [List.length_set]; exact h3, key _ _ ?_⟩, by simp only [μ_sec]; omega, rfl⟩
      rw [es]
      change _ = (((l.getD (i - 1).toNat noIns).1 == BitVec.ofInt 8 24) && _)
      rw [ho]; rfl
  · right
    rw [goFd hi]
    refine ⟨_, rfl, ?_, .inl ⟨0, rfl⟩⟩
    simp only [G_sec, Tree.run]
    rw [secs_ext h3 fun j hj => h4 j (by omega)]
theorem lok_sec : LOk Tryz.prog (lk L_one) Tryz.f27.ntmps 0 20 LT_sec c_sec := lok_view (noL_ok2 _ _ _ _ _ _ _) (by kernel_rfl) e_sec (by rintro ⟨⟨l, ⟨⟩, i, ⟨⟩⟩, ⟨o, ⟨⟩⟩⟩; exact ⟨(l, i, o), rfl⟩) T_sec turn_sec I_sec G_sec (by rintro ⟨l, i, o⟩; rfl) μ_sec step_sec
def ea_sec : Slots → denAs [.c (.d insT)] := fun l => (l, ())
def eo_sec : Slots → denObs [] := fun l => ()
noncomputable def E_sec : Slots → Tree (AV × List Ob) := fun l => 
Tree.ite (decide ((0 : Int) ≤ (↑(List.length l) : Int)) && (decide ((↑(List.length l) : Int) ≤ (↑(List.length l) : Int)) && (decide ((↑(List.length l) : Int) ≤ (140737488355328 : Int)) && bytesOk (↑(List.length l) : Int).toNat (1 : Nat)))) (Tree.ite (decC ((1 : Int) ≤ (1 : Int) ∧ List.length l ≤ (140737488355328 : Nat) ∧ (List.replicate (↑(List.length l) : Int).toNat (false, ())).length = List.length l ∧ ∀ (j : Nat), (↑j : Int) < (1 : Int) → ((List.replicate (↑(List.length l) : Int).toNat (false, ())).getD j (false, ())).fst = secB l j)) (Tree.ret (AV.p (Part.one (Cell.h (0 : Nat))), [Ob.row boolsT (secs l)])) Tree.fail) Tree.fail
noncomputable def F_sec : denAs [.c (.d insT)] → denObs [] → Tree (AV × List Ob) := fun x y => match x, y with
  | (l, ()), () => ckP (l.length ≤ 140737488355328) (.ret (AV.c (.h 0), [.row boolsT (secs l)]))
theorem ev_sec : ∀ a, (evalFnL Tryz.prog (lk L_one) 20 LT_sec Tryz.f27 c_sec [] (encAs [.c (.d insT)] (ea_sec a)) (encOs [] (eo_sec a))).run = (E_sec a).run := by
  rintro l
  kernel_rfl
theorem fe_sec : ∀ a y, (F_sec (ea_sec a) (eo_sec a)).run = some y → (E_sec a).run = some y := by
  rintro l y h
  obtain ⟨h1, h⟩ := ckP_run h
  rw [← h]
  change l.length ≤ 140737488355328 at h1
  dsimp only [E_sec]
  refine (goT ?_).trans ((goT (decP ⟨Int.le_refl 1, h1, ?_, ?_⟩)).trans rfl)
  · simp only [bytesOk_dec, and_dec, decide_eq_true_eq]; omega
  · simp
  · intro j hj
    have : j = 0 := by omega
    subst this
    rw [List.getD_eq_getElem?_getD, List.getElem?_replicate]
    split <;> rfl
theorem ok_sec : SummOk Kn Tryz.prog 27 (sumT [.dp insT] false [.c (.d insT)] [] F_sec) := sumT_view tok_one Tryz.checked.mixed Tryz.func27 (by kernel_rfl) (by rfl) 20 [] ea_sec eo_sec
  (by rintro ⟨l, ⟨⟩⟩ ⟨⟩; exact ⟨l, rfl, rfl⟩) LT_sec 0 (by rintro ⟨⟩; rfl) lok_sec E_sec ev_sec fe_sec
noncomputable def L_sec : List (Nat × Summ) := (27, (sumT [.dp insT] false [.c (.d insT)] [] F_sec)) :: L_one
theorem tok_sec : TOk Kn Tryz.prog (lk L_sec) := lk_cons ok_sec tok_one
noncomputable def slotBad (l : Slots) (b : Bools) (k : Nat) : Bool := !secA b k && !(wrongI l k b == 0)
noncomputable def firstBad (l : Slots) (b : Bools) : Option Nat := scan (slotBad l b) l.length 0
noncomputable def badIs (l : Slots) (b : Bools) : Bool := (firstBad l b).isSome
noncomputable def badAt (l : Slots) (b : Bools) : Nat := (firstBad l b).getD 0
noncomputable def slotsG (l : Slots) (b : Bools) : Tree (Ex × St) := .ite (badIs l b)
  (.ret (.ret, ⟨[(4, AV.c (.v (.int .i64 (badAt l b)))), (5, AV.c (.v (.int .i64 (wrongI l (badAt l b) b))))], [], 0⟩)) (.ret (.exit 0, ⟨[], [], 0⟩))
noncomputable def leadsI (l : Slots) (b : Bools) (ps : Parts) : Option Nat := match scan (fun j => (leadAt l b (partOf ps j)).isSome) ps.length 0 with
  | none => none
  | some j => leadAt l b (partOf ps j)
def endedI (l : Slots) (b : Bools) (ps : Parts) : Option Int := (scan (fun j => endBad l b (partOf ps j)) ps.length 0).map fun j => lastI b (partOf ps j)
def endIs (l : Slots) (b : Bools) (ps : Parts) : Bool := (endedI l b ps).isSome
def endAt (l : Slots) (b : Bools) (ps : Parts) : Int := (endedI l b ps).getD 0
def endedG (l : Slots) (b : Bools) (ps : Parts) : Tree (Ex × St) := .ite (endIs l b ps)
  (.ret (.ret, ⟨[(6, AV.c (.v (.int .i64 (endAt l b ps)))), (7, AV.c (.v (.int .i64 16)))], [], 0⟩)) (.ret (.exit 0, ⟨[], [], 0⟩))
def endedT (l : Slots) (b : Bools) (ps : Parts) : Tree (AV × List Ob) := .ite (decide (64 < ps.length)) (.ret (.t [.one (.v (.int .i64 0)), .one (.v (.int .i64 17))], []))
  (.ite (endIs l b ps) (.ret (.t [.one (.v (.int .i64 (endAt l b ps))), .one (.v (.int .i64 16))], [])) (.ret (.t [.one (.v (.int .i64 0)), .one (.v (.int .i64 0))], [])))
noncomputable abbrev c_slots : Code := Tryz.f28.body.getD .skip
def p_slots : List Nat := [0, 1, 0, 1, 1]
def sh_slots : Shape := ⟨[(0, .c (.d insT)), (1, .c (.d boolsT)), (17, .c (.i .i64)), (18, .c (.i .i64))], []⟩
@[reducible] def A_slots : Type := Slots × Bools × Int × Int
def e_slots : A_slots → sh_slots.den := fun ⟨l, b, n, i⟩ => ((l, b, n, i, ()), ())
def v_slots : sh_slots.den → A_slots := fun d => match d with
  | ((l, b, n, i, ()), ()) => (l, b, n, i)
def I_slots : A_slots → Prop := fun ⟨l, b, n, i⟩ => n = l.length ∧ 0 ≤ i ∧ lenOk l b ∧ ∀ j : Nat, (j : Int) < i → slotBad l b j = false
noncomputable def G_slots : A_slots → Tree (Ex × St) := fun ⟨l, b, n, i⟩ => slotsG l b
noncomputable def orc_slots : Orc := ⟨sh_slots, [], [4, 5], [], fun d => ckP (I_slots (v_slots d)) (G_slots (v_slots d))⟩
noncomputable def LT_slots : LT := oneL p_slots orc_slots (noL)
noncomputable def T_slots : Slots × Bools × Int × Int → Tree (A_slots ⊕ (Ex × St)) := fun ⟨l, b, n, i⟩ => 
Tree.ite (decide (i < n)) (Tree.ite (decide ((0 : Int) ≤ i) && decide (i < (↑(List.length b) : Int))) (Tree.ite (List.getD b i.toNat (false, ())).fst (Tree.ret (Sum.inl (l, b, n, IntKind.i64.wrap (i + (1 : Int))))) (Tree.ite (decC ((0 : Int) ≤ i ∧ i < (↑(List.length l) : (ShA.c (ShC.i IntKind.i64)).den) ∧ List.length l ≤ (140737488355328 : Nat) ∧ List.length b = List.length l)) (Tree.ite (wrongI l i.toNat b != (0 : Int)) (Tree.ret (Sum.inr (Ex.ret, { env := [((4 : Nat), AV.p (Part.one (Cell.v (Value.int IntKind.i64 i)))), ((5 : Nat), AV.p (Part.one (Cell.v (Value.int IntKind.i64 (wrongI l i.toNat b)))))], hp := [], nx := (0 : Nat) }))) (Tree.ret (Sum.inl (l, b, n, IntKind.i64.wrap (i + (1 : Int)))))) Tree.fail)) Tree.fail) (Tree.ret (Sum.inr (Ex.exit (0 : Nat), { env := [], hp := [], nx := (0 : Nat) })))
theorem turn_slots : ∀ a : A_slots, (turnT 0 orc_slots (evalCode Tryz.prog (lk L_sec) Tryz.f28.ntmps 0 20 LT_slots (bodyAt c_slots p_slots) false (0 :: p_slots)) (sh_slots.enc (e_slots a))).run = ((T_slots a).bind fun s => .ret (turnV sh_slots e_slots s)).run := by
  rintro ⟨l, b, n, i⟩
  kernel_rfl
def μ_slots : A_slots → Nat := fun ⟨l, b, n, i⟩ => l.length - i.toNat
theorem step_slots : ∀ a : A_slots, I_slots a → (∃ a', (T_slots a).run = some (.inl a') ∧ I_slots a' ∧ μ_slots a' < μ_slots a ∧ (G_slots a').run = (G_slots a).run) ∨ (∃ y, (T_slots a).run = some (.inr y) ∧ (G_slots a).run = some y ∧ ((∃ id, y.1 = .exit id) ∨ y.1 = .ret)) := by
  rintro ⟨l, b, n, i⟩ ⟨rfl, h1, h2, h3⟩
  obtain ⟨h4, h5⟩ := h2
  simp only [T_slots]
  by_cases hi : i < l.length
  · rw [goTd hi, goTa ⟨h1, by omega⟩, wrap64 (n := i + 1) (by omega) (by omega)]
    have e : slotBad l b i.toNat = (!(b.getD i.toNat (false, ())).1 && !(wrongI l i.toNat b == 0)) := by unfold slotBad secA; rw [ofToNat h1]
    cases hs : (b.getD i.toNat (false, ())).1 with
    | true =>
      left
      rw [hs] at e
      rw [goT rfl]
      exact ⟨_, rfl, ⟨rfl, by omega, ⟨h4, h5⟩, all_succ h1 h3 e⟩, by simp only [μ_slots]; omega, rfl⟩
    | false =>
      rw [hs] at e
      rw [goF rfl, goT (decP ⟨h1, hi, h4, h5⟩)]
      by_cases hw : wrongI l i.toNat b = 0
      · left
        rw [goFne hw]
        exact ⟨_, rfl, ⟨rfl, by omega, ⟨h4, h5⟩, all_succ h1 h3 (by rw [e, hw]; rfl)⟩, by simp only [μ_slots]; omega, rfl⟩
      · right
        rw [goTne hw]
        refine ⟨_, rfl, ?_, .inr rfl⟩
        have hf : firstBad l b = some i.toNat := scan_hit h1 (by omega) h3 (by rw [e]; simp [hw])
        simp only [G_slots, slotsG]
        have e1 : badIs l b = true := by unfold badIs; rw [hf]; rfl
        have e2 : badAt l b = i.toNat := by unfold badAt; rw [hf]; rfl
        rw [goT e1, e2, ofToNat h1]; rfl
  · right
    rw [goFd hi]
    refine ⟨_, rfl, ?_, .inl ⟨0, rfl⟩⟩
    have hf : firstBad l b = none := scan_end hi h3
    have e1 : badIs l b = false := by unfold badIs; rw [hf]; rfl
    simp only [G_slots, slotsG]
    rw [goF e1]; rfl
theorem lok_slots : LOk Tryz.prog (lk L_sec) Tryz.f28.ntmps 0 20 LT_slots c_slots := lok_view (noL_ok2 _ _ _ _ _ _ _) (by kernel_rfl) e_slots (by rintro ⟨⟨l, b, n, i, ⟨⟩⟩, ⟨⟩⟩; exact ⟨(l, b, n, i), rfl⟩) T_slots turn_slots I_slots G_slots (by rintro ⟨l, b, n, i⟩; rfl) μ_slots step_slots
noncomputable def slotsT (l : Slots) (b : Bools) : Tree (AV × List Ob) := .ite (decide (l.length < 1) || decide (4096 < l.length)) (.ret (.t [.one (.v (.int .i64 0)), .one (.v (.int .i64 10))], []))
  (.ite (badIs l b) (.ret (.t [.one (.v (.int .i64 (badAt l b))), .one (.v (.int .i64 (wrongI l (badAt l b) b)))], [])) (.ret (.t [.one (.v (.int .i64 0)), .one (.v (.int .i64 0))], [])))
def ea_slots : Slots × Bools → denAs [.c (.d insT), .c (.d boolsT)] := fun ⟨l, b⟩ => (l, b, ())
def eo_slots : Slots × Bools → denObs [] := fun ⟨l, b⟩ => ()
noncomputable def E_slots : Slots × Bools → Tree (AV × List Ob) := fun ⟨l, b⟩ => 
Tree.ite (!decide ((↑(List.length l) : Int) < (1 : Int))) (Tree.ite (decide ((4096 : Int) < (↑(List.length l) : Int))) (Tree.ret (AV.t [Part.one (Cell.v (Value.int IntKind.i64 (0 : Int))), Part.one (Cell.v (Value.int IntKind.i64 (10 : Int)))], [])) (Tree.ite (decC ((↑(List.length l) : Int) = (↑(List.length l) : Int) ∧ (0 : Int) ≤ (0 : Int) ∧ lenOk l b ∧ ∀ (j : Nat), (↑j : Int) < (0 : Int) → slotBad l b j = false)) (Tree.ite (badIs l b) (Tree.ret (AV.t [Part.one (Cell.v (Value.int IntKind.i64 (↑(badAt l b) : Int))), Part.one (Cell.v (Value.int IntKind.i64 (wrongI l (badAt l b) b)))], [])) (Tree.ret (AV.t [Part.one (Cell.v (Value.int IntKind.i64 (0 : Int))), Part.one (Cell.v (Value.int IntKind.i64 (0 : Int)))], []))) Tree.fail)) (Tree.ret (AV.t [Part.one (Cell.v (Value.int IntKind.i64 (0 : Int))), Part.one (Cell.v (Value.int IntKind.i64 (10 : Int)))], []))
noncomputable def F_slots : denAs [.c (.d insT), .c (.d boolsT)] → denObs [] → Tree (AV × List Ob) := fun x y => match x, y with
  | (l, b, ()), () => ckP (lenOk l b) (slotsT l b)
theorem ev_slots : ∀ a, (evalFnL Tryz.prog (lk L_sec) 20 LT_slots Tryz.f28 c_slots [] (encAs [.c (.d insT), .c (.d boolsT)] (ea_slots a)) (encOs [] (eo_slots a))).run = (E_slots a).run := by
  rintro ⟨l, b⟩
  kernel_rfl
theorem fe_slots : ∀ a y, (F_slots (ea_slots a) (eo_slots a)).run = some y → (E_slots a).run = some y := by
  rintro ⟨l, b⟩ y h
  obtain ⟨h1, h⟩ := ckP_run h
  rw [← h]
  change lenOk l b at h1
  dsimp only [E_slots]
  change _ = (slotsT l b).run
  unfold slotsT
  by_cases g1 : l.length < 1
  · refine (goFn (by omega)).trans ?_
    rw [goT (by simp [g1])]
  · refine (goTn (by omega)).trans ?_
    by_cases g2 : 4096 < l.length
    · rw [goTd (by omega), goT (by simp [g2])]
    · refine (goFd (by omega)).trans (Eq.trans ?_ (goF (by simp [g1, g2])).symm)
      exact goT (decP ⟨rfl, Int.le_refl 0, h1, fun j hj => by omega⟩)
theorem ok_slots : SummOk Kn Tryz.prog 28 (sumT [.dp insT, .dp boolsT] false [.c (.d insT), .c (.d boolsT)] [] F_slots) := sumT_view tok_sec Tryz.checked.mixed Tryz.func28 (by kernel_rfl) (by rfl) 20 [] ea_slots eo_slots
  (by rintro ⟨l, b, ⟨⟩⟩ ⟨⟩; exact ⟨(l, b), rfl, rfl⟩) LT_slots 0 (by rintro ⟨⟩; rfl) lok_slots E_slots ev_slots fe_slots
noncomputable def L_slots : List (Nat × Summ) := (28, (sumT [.dp insT, .dp boolsT] false [.c (.d insT), .c (.d boolsT)] [] F_slots)) :: L_sec
theorem tok_slots : TOk Kn Tryz.prog (lk L_slots) := lk_cons ok_slots tok_sec
theorem ok_sort : SummOk Kn Tryz.prog 51 sortS := sort_ok Tryz.func51 (by rfl) (by rfl) fun blk off cap zs w h1 h2 h3 => Tryz.slices_Sort_int blk off cap zs w h1 h2 h3
noncomputable def L_sort : List (Nat × Summ) := (51, sortS) :: L_slots
theorem tok_sort : TOk Kn Tryz.prog (lk L_sort) := lk_cons ok_sort tok_slots
theorem ok_compact : SummOk Kn Tryz.prog 52 compactS := compact_ok Tryz.func52 (by rfl) (by rfl) fun blk off cap zs w h1 h2 h3 => Tryz.slices_Compact_int blk off cap zs w h1 h2 h3
noncomputable def L_compact : List (Nat × Summ) := (52, compactS) :: L_sort
theorem tok_compact : TOk Kn Tryz.prog (lk L_compact) := lk_cons ok_compact tok_sort
noncomputable abbrev c_beg : Code := Tryz.f30.body.getD .skip
def p_beg : List Nat := [0, 1, 0, 1, 1]
def sh_beg : Shape := ⟨[(0, .c (.d insT)), (1, .c (.d boolsT)), (5, .c (.h 0)), (11, .c (.i .i64)), (12, .c (.i .i64))], [.row intsT]⟩
@[reducible] def A_beg : Type := Slots × Bools × Int × Int × Ints
def e_beg : A_beg → sh_beg.den := fun ⟨l, b, n, i, o⟩ => ((l, b, (), n, i, ()), (o, ()))
def v_beg : sh_beg.den → A_beg := fun d => match d with
  | ((l, b, (), n, i, ()), (o, ())) => (l, b, n, i, o)
def I_beg : A_beg → Prop := fun ⟨l, b, n, i, o⟩ => n = l.length ∧ 0 ≤ i ∧ i ≤ n ∧ lenOk l b ∧ l.length ≤ 4096 ∧ o = begL l b i.toNat
noncomputable def G_beg : A_beg → Tree (Ex × St) := fun ⟨l, b, n, i, o⟩ => .ret (.exit 0, ⟨[(5, .p (.one (.h 0)))], [(0, .row intsT (begL l b l.length))], 1⟩)
noncomputable def orc_beg : Orc := ⟨sh_beg, [], [5], [], fun d => ckP (I_beg (v_beg d)) (G_beg (v_beg d))⟩
noncomputable def LT_beg : LT := oneL p_beg orc_beg (noL)
noncomputable def T_beg : Slots × Bools × Int × Int × Ints → Tree (A_beg ⊕ (Ex × St)) := fun ⟨l, b, n, i, o⟩ => 
Tree.ite (decide (i < n)) (Tree.ite (decC ((0 : Int) ≤ i ∧ i < (↑(List.length l) : (ShA.c (ShC.i IntKind.i64)).den))) (Tree.ite (namesB (slotA l i.toNat)) (Tree.ite (decide ((0 : Int) ≤ i) && decide (i < (↑(List.length b) : Int))) (Tree.ite (!(List.getD b i.toNat (false, ())).fst) (Tree.ite (bytesOk (List.length o + (1 : Nat)) (8 : Nat) && (List.length o + (1 : Nat)).ble (140737488355328 : Nat)) (Tree.ret (Sum.inl (l, b, n, IntKind.i64.wrap (i + (1 : Int)), o ++ [(callI l i, ())]))) Tree.fail) (Tree.ret (Sum.inl (l, b, n, IntKind.i64.wrap (i + (1 : Int)), o)))) Tree.fail) (Tree.ret (Sum.inl (l, b, n, IntKind.i64.wrap (i + (1 : Int)), o)))) Tree.fail) (Tree.ret (Sum.inr (Ex.exit (0 : Nat), { env := [((5 : Nat), AV.p (Part.one (Cell.h (0 : Nat))))], hp := [((0 : Nat), Ob.row intsT o)], nx := (1 : Nat) })))
theorem turn_beg : ∀ a : A_beg, (turnT 0 orc_beg (evalCode Tryz.prog (lk L_compact) Tryz.f30.ntmps 0 20 LT_beg (bodyAt c_beg p_beg) false (0 :: p_beg)) (sh_beg.enc (e_beg a))).run = ((T_beg a).bind fun s => .ret (turnV sh_beg e_beg s)).run := by
  rintro ⟨l, b, n, i, o⟩
  kernel_rfl
def μ_beg : A_beg → Nat := fun ⟨l, b, n, i, o⟩ => l.length - i.toNat
theorem step_beg : ∀ a : A_beg, I_beg a → (∃ a', (T_beg a).run = some (.inl a') ∧ I_beg a' ∧ μ_beg a' < μ_beg a ∧ (G_beg a').run = (G_beg a).run) ∨ (∃ y, (T_beg a).run = some (.inr y) ∧ (G_beg a).run = some y ∧ ((∃ id, y.1 = .exit id) ∨ y.1 = .ret)) := by
  rintro ⟨l, b, n, i, o⟩ ⟨rfl, h1, h2, h3, h6, rfl⟩
  obtain ⟨h4, h5⟩ := h3
  simp only [T_beg]
  by_cases hi : i < l.length
  · left
    have hl := begL_len l b i.toNat
    have hup := begL_up l b i.toNat
    rw [← toNat_up h1] at hup
    unfold secA at hup
    rw [ofToNat h1] at hup
    rw [goTd hi, goT (decP ⟨h1, hi⟩), wrap64 (n := i + 1) (by omega) (by omega)]
    cases hn : namesB (slotA l i.toNat) with
    | false =>
      rw [hn] at hup
      rw [goF rfl]
      refine ⟨_, rfl, ⟨rfl, by omega, by omega, ⟨h4, h5⟩, h6, ?_⟩, by simp only [μ_beg]; omega, rfl⟩
      rw [hup]; simp
    | true =>
      rw [hn] at hup
      rw [goT rfl, goTa ⟨h1, by omega⟩]
      cases hs : (b.getD i.toNat (false, ())).1 with
      | true =>
        rw [hs] at hup
        rw [goFN rfl]
        refine ⟨_, rfl, ⟨rfl, by omega, by omega, ⟨h4, h5⟩, h6, ?_⟩, by simp only [μ_beg]; omega, rfl⟩
        rw [hup]; simp
      | false =>
        rw [hs] at hup
        rw [goTN rfl, goTb ⟨by omega, by omega⟩]
        refine ⟨_, rfl, ⟨rfl, by omega, by omega, ⟨h4, h5⟩, h6, ?_⟩, by simp only [μ_beg]; omega, rfl⟩
        rw [hup]; rfl
  · right
    rw [goFd hi]
    refine ⟨_, rfl, ?_, .inl ⟨0, rfl⟩⟩
    simp only [G_beg, Tree.run]
    rw [show i.toNat = l.length by omega]
theorem lok_beg : LOk Tryz.prog (lk L_compact) Tryz.f30.ntmps 0 20 LT_beg c_beg := lok_view (noL_ok2 _ _ _ _ _ _ _) (by kernel_rfl) e_beg (by rintro ⟨⟨l, b, ⟨⟩, n, i, ⟨⟩⟩, ⟨o, ⟨⟩⟩⟩; exact ⟨(l, b, n, i, o), rfl⟩) T_beg turn_beg I_beg G_beg (by rintro ⟨l, b, n, i, o⟩; rfl) μ_beg step_beg
def ea_beg : Slots × Bools → denAs [.c (.d insT), .c (.d boolsT)] := fun ⟨l, b⟩ => (l, b, ())
def eo_beg : Slots × Bools → denObs [] := fun ⟨l, b⟩ => ()
noncomputable def E_beg : Slots × Bools → Tree (AV × List Ob) := fun ⟨l, b⟩ => 
Tree.ite (decC ((↑(List.length l) : Int) = (↑(List.length l) : Int) ∧ (0 : Int) ≤ (0 : Int) ∧ (0 : Int) ≤ (↑(List.length l) : Int) ∧ lenOk l b ∧ List.length l ≤ (4096 : Nat) ∧ [((0 : Int), ())] = begL l b (0 : Nat))) (Tree.ite (decC ((0 : Nat) < List.length (begL l b (List.length l)) ∧ List.length (begL l b (List.length l)) ≤ (1000000 : Nat))) (Tree.ite (decC ((0 : Nat) < List.length (sorted (begL l b (List.length l))) ∧ List.length (sorted (begL l b (List.length l))) ≤ (1000000 : Nat))) (Tree.ret (AV.p (Part.one (Cell.h (0 : Nat))), [Ob.row intsT (once (sorted (begL l b (List.length l))))])) Tree.fail) Tree.fail) Tree.fail
noncomputable def F_beg : denAs [.c (.d insT), .c (.d boolsT)] → denObs [] → Tree (AV × List Ob) := fun x y => match x, y with
  | (l, b, ()), () => ckP (lenOk l b ∧ l.length ≤ 4096) (.ret (AV.c (.h 0), [.row intsT (once (sorted (begL l b l.length)))]))
theorem ev_beg : ∀ a, (evalFnL Tryz.prog (lk L_compact) 20 LT_beg Tryz.f30 c_beg [] (encAs [.c (.d insT), .c (.d boolsT)] (ea_beg a)) (encOs [] (eo_beg a))).run = (E_beg a).run := by
  rintro ⟨l, b⟩
  kernel_rfl
theorem fe_beg : ∀ a y, (F_beg (ea_beg a) (eo_beg a)).run = some y → (E_beg a).run = some y := by
  rintro ⟨l, b⟩ y h
  obtain ⟨⟨h1, h2⟩, h⟩ := ckP_run h
  rw [← h]
  change lenOk l b at h1
  change l.length ≤ 4096 at h2
  have hl := begL_len l b l.length
  have hp : 0 < (begL l b l.length).length := Nat.succ_pos _
  dsimp only [E_beg]
  refine (goT (decP ⟨rfl, Int.le_refl 0, ?_, h1, h2, rfl⟩)).trans ((goT (decP ⟨hp, ?_⟩)).trans ((goT (decP ⟨?_, ?_⟩)).trans rfl))
  · omega
  · omega
  · rw [sorted_len]; exact hp
  · rw [sorted_len]; omega
theorem ok_beg : SummOk Kn Tryz.prog 30 (sumT [.dp insT, .dp boolsT] false [.c (.d insT), .c (.d boolsT)] [] F_beg) := sumT_view tok_compact Tryz.checked.mixed Tryz.func30 (by kernel_rfl) (by rfl) 20 [] ea_beg eo_beg
  (by rintro ⟨l, b, ⟨⟩⟩ ⟨⟩; exact ⟨(l, b), rfl, rfl⟩) LT_beg 0 (by rintro ⟨⟩; rfl) lok_beg E_beg ev_beg fe_beg
noncomputable def L_beg : List (Nat × Summ) := (30, (sumT [.dp insT, .dp boolsT] false [.c (.d insT), .c (.d boolsT)] [] F_beg)) :: L_compact
theorem tok_beg : TOk Kn Tryz.prog (lk L_beg) := lk_cons ok_beg tok_compact
noncomputable abbrev c_split : Code := Tryz.f29.body.getD .skip
def p_split : List Nat := [0, 1, 0, 1, 1]
def sh_split : Shape := ⟨[(0, .c (.d insT)), (1, .c (.d intsT)), (5, .c (.h 0)), (9, .c (.d intsT)), (10, .c (.i .i64)), (11, .c (.i .i64))], [.row partsT]⟩
@[reducible] def A_split : Type := Slots × Ints × Ints × Int × Int × Parts
def e_split : A_split → sh_split.den := fun ⟨l, r, r9, n, i, o⟩ => ((l, r, (), r9, n, i, ()), (o, ()))
def v_split : sh_split.den → A_split := fun d => match d with
  | ((l, r, (), r9, n, i, ()), (o, ())) => (l, r, r9, n, i, o)
def I_split : A_split → Prop := fun ⟨l, r, r9, n, i, o⟩ => n = r.length ∧ 0 ≤ i ∧ i ≤ n ∧ r.length ≤ 1000000 ∧ l.length ≤ 1000000 ∧ o = splitL l.length r i.toNat ∧ r9 = r
noncomputable def G_split : A_split → Tree (Ex × St) := fun ⟨l, r, r9, n, i, o⟩ => .ret (.exit 0, ⟨[(5, .p (.one (.h 0)))], [(0, .row partsT (splitL l.length r r.length))], 1⟩)
noncomputable def orc_split : Orc := ⟨sh_split, [(5, partsT)], [5], [], fun d => ckP (I_split (v_split d)) (G_split (v_split d))⟩
noncomputable def LT_split : LT := oneL p_split orc_split (noL)
noncomputable def T_split : Slots × Ints × Ints × Int × Int × Parts → Tree (A_split ⊕ (Ex × St)) := fun ⟨l, r, r9, n, i, o⟩ => 
Tree.ite (decide (i < n)) (Tree.ite (decide ((0 : Int) ≤ i) && decide (i < (↑(List.length r9) : Int))) (Tree.ite (decide (IntKind.i64.wrap (i + (1 : Int)) < (↑(List.length r) : Int))) (Tree.ite (decide ((0 : Int) ≤ IntKind.i64.wrap (i + (1 : Int))) && decide (IntKind.i64.wrap (i + (1 : Int)) < (↑(List.length r) : Int))) (Tree.ite (bytesOk (List.length o + (1 : Nat)) (16 : Nat) && (List.length o + (1 : Nat)).ble (140737488355328 : Nat)) (Tree.ret (Sum.inl (l, r, r9, n, IntKind.i64.wrap (i + (1 : Int)), o ++ [((List.getD r9 i.toNat ((0 : Int), ())).fst, (List.getD r (IntKind.i64.wrap (i + (1 : Int))).toNat ((0 : Int), ())).fst, ())]))) Tree.fail) Tree.fail) (Tree.ite (bytesOk (List.length o + (1 : Nat)) (16 : Nat) && (List.length o + (1 : Nat)).ble (140737488355328 : Nat)) (Tree.ret (Sum.inl (l, r, r9, n, IntKind.i64.wrap (i + (1 : Int)), o ++ [((List.getD r9 i.toNat ((0 : Int), ())).fst, (↑(List.length l) : Int), ())]))) Tree.fail)) Tree.fail) (Tree.ret (Sum.inr (Ex.exit (0 : Nat), { env := [((5 : Nat), AV.p (Part.one (Cell.h (0 : Nat))))], hp := [((0 : Nat), Ob.row partsT o)], nx := (1 : Nat) })))
theorem turn_split : ∀ a : A_split, (turnT 0 orc_split (evalCode Tryz.prog (lk L_beg) Tryz.f29.ntmps 0 20 LT_split (bodyAt c_split p_split) false (0 :: p_split)) (sh_split.enc (e_split a))).run = ((T_split a).bind fun s => .ret (turnV sh_split e_split s)).run := by
  rintro ⟨l, r, r9, n, i, o⟩
  kernel_rfl
def μ_split : A_split → Nat := fun ⟨l, r, r9, n, i, o⟩ => r.length - i.toNat
theorem step_split : ∀ a : A_split, I_split a → (∃ a', (T_split a).run = some (.inl a') ∧ I_split a' ∧ μ_split a' < μ_split a ∧ (G_split a').run = (G_split a).run) ∨ (∃ y, (T_split a).run = some (.inr y) ∧ (G_split a).run = some y ∧ ((∃ id, y.1 = .exit id) ∨ y.1 = .ret)) := by
  rintro ⟨l, r, r9, n, i, o⟩ ⟨rfl, h1, h2, h3, h4, rfl, h5⟩
  subst h5
  simp only [T_split]
  have hsl := splitL_len l.length r9 i.toNat
  by_cases hi : i < r9.length
  · left
    have hup := splitL_up l.length r9 i.toNat
    rw [← toNat_up h1] at hup
    rw [goTd hi, goTa ⟨h1, hi⟩, wrap64 (n := i + 1) (by omega) (by omega)]
    by_cases hn : i + 1 < r9.length
    · rw [goTd hn, goTa ⟨by omega, hn⟩, goTb ⟨by rw [hsl]; omega, by rw [hsl]; omega⟩]
      refine ⟨_, rfl, ⟨rfl, by omega, by omega, h3, h4, ?_, rfl⟩, by simp only [μ_split]; omega, rfl⟩
      rw [hup]
      unfold subA
      rw [decide_eq_true (by omega), ← toNat_up h1]; rfl
    · rw [goFd hn, goTb ⟨by rw [hsl]; omega, by rw [hsl]; omega⟩]
      refine ⟨_, rfl, ⟨rfl, by omega, by omega, h3, h4, ?_, rfl⟩, by simp only [μ_split]; omega, rfl⟩
      rw [hup]
      unfold subA
      rw [decide_eq_false (by omega)]; rfl
  · right
    rw [goFd hi]
    refine ⟨_, rfl, ?_, .inl ⟨0, rfl⟩⟩
    simp only [G_split, Tree.run]
    rw [show i.toNat = r9.length by omega]
theorem lok_split : LOk Tryz.prog (lk L_beg) Tryz.f29.ntmps 0 20 LT_split c_split := lok_view (noL_ok2 _ _ _ _ _ _ _) (by kernel_rfl) e_split (by rintro ⟨⟨l, r, ⟨⟩, r9, n, i, ⟨⟩⟩, ⟨o, ⟨⟩⟩⟩; exact ⟨(l, r, r9, n, i, o), rfl⟩) T_split turn_split I_split G_split (by rintro ⟨l, r, r9, n, i, o⟩; rfl) μ_split step_split
def ea_split : Slots × Ints → denAs [.c (.d insT), .c (.d intsT)] := fun ⟨l, r⟩ => (l, r, ())
def eo_split : Slots × Ints → denObs [] := fun ⟨l, r⟩ => ()
noncomputable def E_split : Slots × Ints → Tree (AV × List Ob) := fun ⟨l, r⟩ => 
Tree.ite (decC ((↑(List.length r) : Int) = (↑(List.length r) : Int) ∧ (0 : Int) ≤ (0 : Int) ∧ (0 : Int) ≤ (↑(List.length r) : Int) ∧ List.length r ≤ (1000000 : Nat) ∧ List.length l ≤ (1000000 : Nat) ∧ [] = splitL (List.length l) r (0 : Nat) ∧ r = r)) (Tree.ret (AV.p (Part.one (Cell.h (0 : Nat))), [Ob.row partsT (splitL (List.length l) r (List.length r))])) Tree.fail
noncomputable def F_split : denAs [.c (.d insT), .c (.d intsT)] → denObs [] → Tree (AV × List Ob) := fun x y => match x, y with
  | (l, r, ()), () => ckP (r.length ≤ 1000000 ∧ l.length ≤ 1000000) (.ret (AV.c (.h 0), [.row partsT (splitL l.length r r.length)]))
theorem ev_split : ∀ a, (evalFnL Tryz.prog (lk L_beg) 20 LT_split Tryz.f29 c_split [(0, partsT)] (encAs [.c (.d insT), .c (.d intsT)] (ea_split a)) (encOs [] (eo_split a))).run = (E_split a).run := by
  rintro ⟨l, r⟩
  kernel_rfl
theorem fe_split : ∀ a y, (F_split (ea_split a) (eo_split a)).run = some y → (E_split a).run = some y := by
  rintro ⟨l, r⟩ y h
  obtain ⟨⟨h1, h2⟩, h⟩ := ckP_run h
  rw [← h]
  dsimp only [E_split]
  refine (goT (decP ⟨rfl, Int.le_refl 0, ?_, h1, h2, rfl, rfl⟩)).trans rfl
  omega
theorem ok_split : SummOk Kn Tryz.prog 29 (sumT [.dp insT, .dp intsT] false [.c (.d insT), .c (.d intsT)] [] F_split) := sumT_view tok_beg Tryz.checked.mixed Tryz.func29 (by kernel_rfl) (by rfl) 20 [(0, partsT)] ea_split eo_split
  (by rintro ⟨l, r, ⟨⟩⟩ ⟨⟩; exact ⟨(l, r), rfl, rfl⟩) LT_split 0 (by rintro ⟨⟩; rfl) lok_split E_split ev_split fe_split
noncomputable def L_split : List (Nat × Summ) := (29, (sumT [.dp insT, .dp intsT] false [.c (.d insT), .c (.d intsT)] [] F_split)) :: L_beg
theorem tok_split : TOk Kn Tryz.prog (lk L_split) := lk_cons ok_split tok_beg
noncomputable abbrev c_ended : Code := Tryz.f31.body.getD .skip
def p_ended : List Nat := [0, 1, 0, 1, 1]
def sh_ended : Shape := ⟨[(0, .c (.d insT)), (2, .c (.d boolsT)), (15, .c (.d partsT)), (16, .c (.i .i64)), (17, .c (.i .i64))], []⟩
@[reducible] def A_ended : Type := Slots × Bools × Parts × Int × Int
def e_ended : A_ended → sh_ended.den := fun ⟨l, b, p, n, i⟩ => ((l, b, p, n, i, ()), ())
def v_ended : sh_ended.den → A_ended := fun d => match d with
  | ((l, b, p, n, i, ()), ()) => (l, b, p, n, i)
def I_ended : A_ended → Prop := fun ⟨l, b, p, n, i⟩ => n = p.length ∧ 0 ≤ i ∧ lenOk l b ∧ endsOk l b p ∧ ∀ j : Nat, (j : Int) < i → endBad l b (partOf p j) = false
noncomputable def G_ended : A_ended → Tree (Ex × St) := fun ⟨l, b, p, n, i⟩ => endedG l b p
noncomputable def orc_ended : Orc := ⟨sh_ended, [], [6, 7], [], fun d => ckP (I_ended (v_ended d)) (G_ended (v_ended d))⟩
noncomputable def LT_ended : LT := oneL p_ended orc_ended (noL)
noncomputable def T_ended : Slots × Bools × Parts × Int × Int → Tree (A_ended ⊕ (Ex × St)) := fun ⟨l, b, p, n, i⟩ => 
Tree.ite (decide (i < n)) (Tree.ite (decide ((0 : Int) ≤ i) && decide (i < (↑(List.length p) : Int))) (Tree.ite (decide ((0 : Int) ≤ IntKind.i64.wrap ((List.getD p i.toNat ((0 : Int), (0 : Int), ())).snd.fst - (1 : Int))) && decide (IntKind.i64.wrap ((List.getD p i.toNat ((0 : Int), (0 : Int), ())).snd.fst - (1 : Int)) < (↑(List.length b) : Int))) (Tree.ite (List.getD b (IntKind.i64.wrap ((List.getD p i.toNat ((0 : Int), (0 : Int), ())).snd.fst - (1 : Int))).toNat (false, ())).fst (Tree.ite (decide ((0 : Int) ≤ IntKind.i64.wrap (IntKind.i64.wrap ((List.getD p i.toNat ((0 : Int), (0 : Int), ())).snd.fst - (1 : Int)) - (1 : Int))) && decide (IntKind.i64.wrap (IntKind.i64.wrap ((List.getD p i.toNat ((0 : Int), (0 : Int), ())).snd.fst - (1 : Int)) - (1 : Int)) < (↑(List.length l) : Int))) (Tree.ite ((List.getD l (IntKind.i64.wrap (IntKind.i64.wrap ((List.getD p i.toNat ((0 : Int), (0 : Int), ())).snd.fst - (1 : Int)) - (1 : Int))).toNat noIns).fst != BitVec.ofInt (8 : Nat) (149 : Int)) (Tree.ite ((List.getD l (IntKind.i64.wrap (IntKind.i64.wrap ((List.getD p i.toNat ((0 : Int), (0 : Int), ())).snd.fst - (1 : Int)) - (1 : Int))).toNat noIns).fst != BitVec.ofInt (8 : Nat) (5 : Int)) (Tree.ret (Sum.inr (Ex.ret, { env := [((6 : Nat), AV.p (Part.one (Cell.v (Value.int IntKind.i64 (IntKind.i64.wrap (IntKind.i64.wrap ((List.getD p i.toNat ((0 : Int), (0 : Int), ())).snd.fst - (1 : Int)) - (1 : Int))))))), ((7 : Nat), AV.p (Part.one (Cell.v (Value.int IntKind.i64 (16 : Int)))))], hp := [], nx := (0 : Nat) }))) (Tree.ret (Sum.inl (l, b, p, n, IntKind.i64.wrap (i + (1 : Int)))))) (Tree.ret (Sum.inl (l, b, p, n, IntKind.i64.wrap (i + (1 : Int)))))) Tree.fail) (Tree.ite (decide ((0 : Int) ≤ IntKind.i64.wrap ((List.getD p i.toNat ((0 : Int), (0 : Int), ())).snd.fst - (1 : Int))) && decide (IntKind.i64.wrap ((List.getD p i.toNat ((0 : Int), (0 : Int), ())).snd.fst - (1 : Int)) < (↑(List.length l) : Int))) (Tree.ite ((List.getD l (IntKind.i64.wrap ((List.getD p i.toNat ((0 : Int), (0 : Int), ())).snd.fst - (1 : Int))).toNat noIns).fst != BitVec.ofInt (8 : Nat) (149 : Int)) (Tree.ite ((List.getD l (IntKind.i64.wrap ((List.getD p i.toNat ((0 : Int), (0 : Int), ())).snd.fst - (1 : Int))).toNat noIns).fst != BitVec.ofInt (8 : Nat) (5 : Int)) (Tree.ret (Sum.inr (Ex.ret, { env := [((6 : Nat), AV.p (Part.one (Cell.v (Value.int IntKind.i64 (IntKind.i64.wrap ((List.getD p i.toNat ((0 : Int), (0 : Int), ())).snd.fst - (1 : Int))))))), ((7 : Nat), AV.p (Part.one (Cell.v (Value.int IntKind.i64 (16 : Int)))))], hp := [], nx := (0 : Nat) }))) (Tree.ret (Sum.inl (l, b, p, n, IntKind.i64.wrap (i + (1 : Int)))))) (Tree.ret (Sum.inl (l, b, p, n, IntKind.i64.wrap (i + (1 : Int)))))) Tree.fail)) Tree.fail) Tree.fail) (Tree.ret (Sum.inr (Ex.exit (0 : Nat), { env := [], hp := [], nx := (0 : Nat) })))
theorem turn_ended : ∀ a : A_ended, (turnT 0 orc_ended (evalCode Tryz.prog (lk L_split) Tryz.f31.ntmps 0 20 LT_ended (bodyAt c_ended p_ended) false (0 :: p_ended)) (sh_ended.enc (e_ended a))).run = ((T_ended a).bind fun s => .ret (turnV sh_ended e_ended s)).run := by
  rintro ⟨l, b, p, n, i⟩
  kernel_rfl
def μ_ended : A_ended → Nat := fun ⟨l, b, p, n, i⟩ => p.length - i.toNat
theorem step_ended : ∀ a : A_ended, I_ended a → (∃ a', (T_ended a).run = some (.inl a') ∧ I_ended a' ∧ μ_ended a' < μ_ended a ∧ (G_ended a').run = (G_ended a).run) ∨ (∃ y, (T_ended a).run = some (.inr y) ∧ (G_ended a).run = some y ∧ ((∃ id, y.1 = .exit id) ∨ y.1 = .ret)) := by
  rintro ⟨l, b, p, n, i⟩ ⟨rfl, h1, h2, h3, h4⟩
  obtain ⟨h5, h6⟩ := h2
  obtain ⟨h7, h8⟩ := h3
  simp only [T_ended]
  by_cases hi : i < p.length
  · rw [goTd hi, goTa ⟨h1, hi⟩]
    obtain ⟨a1, a2, a3⟩ := h8 i.toNat (by omega)
    have hb : endBad l b (partOf p i.toNat) = (!(opA l (lastI b (partOf p i.toNat)).toNat == BitVec.ofInt 8 149) && !(opA l (lastI b (partOf p i.toNat)).toNat == BitVec.ofInt 8 5)) := rfl
    have hz : lastI b (partOf p i.toNat) = bif (b.getD ((partOf p i.toNat).2.1 - 1).toNat (false, ())).1 then (partOf p i.toNat).2.1 - 2 else (partOf p i.toNat).2.1 - 1 := rfl
    have hG : endBad l b (partOf p i.toNat) = true → (G_ended (l, b, p, p.length, i)).run = some (.ret, ⟨[(6, AV.c (.v (.int .i64 (lastI b (partOf p i.toNat))))), (7, AV.c (.v (.int .i64 16)))], [], 0⟩) := fun hg => by
      have hf : endedI l b p = some (lastI b (partOf p i.toNat)) := by unfold endedI; rw [scan_hit h1 hi h4 hg]; rfl
      simp only [G_ended, endedG]
      rw [goT (by unfold endIs; rw [hf]; rfl), show endAt l b p = lastI b (partOf p i.toNat) by unfold endAt; rw [hf]; rfl]; rfl
    change 0 ≤ lastI b (partOf p i.toNat) at a1
    have hup : endBad l b (partOf p i.toNat) = false → ∀ j : Nat, (j : Int) < i + 1 → endBad l b (partOf p j) = false := all_succ h1 h4
    generalize hz' : lastI b (partOf p i.toNat) = z at *
    rw [show (p.getD i.toNat (0, 0, ())) = partOf p i.toNat from rfl]
    generalize In.partOf p i.toNat = q at *
    rw [wrap64 (n := q.2.1 - 1) (by omega) (by omega), goTa ⟨by omega, by omega⟩, wrap64 (n := i + 1) (by omega) (by omega)]
    have fin : ∀ z' : Int, z' = z → 0 ≤ z' ∧ z' < l.length → ∀ T1 T2 : Tree (A_ended ⊕ (Ex × St)), T1 = .ret (.inr (.ret, ⟨[(6, AV.c (.v (.int .i64 z'))), (7, AV.c (.v (.int .i64 16)))], [], 0⟩)) → T2 = .ret (.inl (l, b, p, (p.length : Int), i + 1)) →
        (∃ a', (Tree.ite (decide (0 ≤ z') && decide (z' < (l.length : Int))) (.ite ((l.getD z'.toNat noIns).1 != BitVec.ofInt 8 149) (.ite ((l.getD z'.toNat noIns).1 != BitVec.ofInt 8 5) T1 T2) T2) .fail).run = some (.inl a') ∧ I_ended a' ∧ μ_ended a' < μ_ended (l, b, p, (p.length : Int), i) ∧ (G_ended a').run = (G_ended (l, b, p, (p.length : Int), i)).run) ∨
        (∃ y, (Tree.ite (decide (0 ≤ z') && decide (z' < (l.length : Int))) (.ite ((l.getD z'.toNat noIns).1 != BitVec.ofInt 8 149) (.ite ((l.getD z'.toNat noIns).1 != BitVec.ofInt 8 5) T1 T2) T2) .fail).run = some (.inr y) ∧ (G_ended (l, b, p, (p.length : Int), i)).run = some y ∧ ((∃ id, y.1 = .exit id) ∨ y.1 = .ret)) := by
      rintro z' rfl hz2 T1 T2 rfl rfl
      rw [goTa hz2]
      cases o1 : ((l.getD z'.toNat noIns).1 == BitVec.ofInt 8 149) with
      | true =>
        left
        rw [goF (by simp only [bne]; rw [o1]; rfl)]
        refine ⟨_, rfl, ⟨rfl, by omega, ⟨h5, h6⟩, ⟨h7, h8⟩, hup ?_⟩, by simp only [μ_ended]; omega, rfl⟩
        rw [hb]; simp only [opA]; rw [o1]; rfl
      | false =>
        rw [goT (by simp only [bne]; rw [o1]; rfl)]
        cases o2 : ((l.getD z'.toNat noIns).1 == BitVec.ofInt 8 5) with
        | true =>
          left
          rw [goF (by simp only [bne]; rw [o2]; rfl)]
          refine ⟨_, rfl, ⟨rfl, by omega, ⟨h5, h6⟩, ⟨h7, h8⟩, hup ?_⟩, by simp only [μ_ended]; omega, rfl⟩
          rw [hb]; simp only [opA]; rw [o2]; simp
        | false =>
          right
          rw [goT (by simp only [bne]; rw [o2]; rfl)]
          exact ⟨_, rfl, hG (by rw [hb]; simp only [opA]; rw [o1, o2]; rfl), .inr rfl⟩
    cases hs : (b.getD (q.2.1 - 1).toNat (false, ())).1 with
    | true =>
      rw [hs] at hz
      change z = q.2.1 - 2 at hz
      rw [goT rfl, wrap64 (n := q.2.1 - 1 - 1) (by omega) (by omega)]
      exact fin (q.2.1 - 1 - 1) (by omega) (by omega) _ _ rfl rfl
    | false =>
      rw [hs] at hz
      change z = q.2.1 - 1 at hz
      rw [goF rfl]
      exact fin (q.2.1 - 1) (by omega) (by omega) _ _ rfl rfl
  · right
    rw [goFd hi]
    refine ⟨_, rfl, ?_, .inl ⟨0, rfl⟩⟩
    have hf : endedI l b p = none := by unfold endedI; rw [scan_end hi h4]; rfl
    simp only [G_ended, endedG]
    rw [goF (by unfold endIs; rw [hf]; rfl)]; rfl
theorem lok_ended : LOk Tryz.prog (lk L_split) Tryz.f31.ntmps 0 20 LT_ended c_ended := lok_view (noL_ok2 _ _ _ _ _ _ _) (by kernel_rfl) e_ended (by rintro ⟨⟨l, b, p, n, i, ⟨⟩⟩, ⟨⟩⟩; exact ⟨(l, b, p, n, i), rfl⟩) T_ended turn_ended I_ended G_ended (by rintro ⟨l, b, p, n, i⟩; rfl) μ_ended step_ended
def ea_ended : Slots × Parts × Bools → denAs [.c (.d insT), .c (.d partsT), .c (.d boolsT)] := fun ⟨l, p, b⟩ => (l, p, b, ())
def eo_ended : Slots × Parts × Bools → denObs [] := fun ⟨l, p, b⟩ => ()
noncomputable def E_ended : Slots × Parts × Bools → Tree (AV × List Ob) := fun ⟨l, p, b⟩ => 
Tree.ite (decide ((64 : Int) < (↑(List.length p) : Int))) (Tree.ret (AV.t [Part.one (Cell.v (Value.int IntKind.i64 (0 : Int))), Part.one (Cell.v (Value.int IntKind.i64 (17 : Int)))], [])) (Tree.ite (decC ((↑(List.length p) : Int) = (↑(List.length p) : Int) ∧ (0 : Int) ≤ (0 : Int) ∧ lenOk l b ∧ endsOk l b p ∧ ∀ (j : Nat), (↑j : Int) < (0 : Int) → endBad l b (In.partOf p j) = false)) (Tree.ite (endIs l b p) (Tree.ret (AV.t [Part.one (Cell.v (Value.int IntKind.i64 (endAt l b p))), Part.one (Cell.v (Value.int IntKind.i64 (16 : Int)))], [])) (Tree.ret (AV.t [Part.one (Cell.v (Value.int IntKind.i64 (0 : Int))), Part.one (Cell.v (Value.int IntKind.i64 (0 : Int)))], []))) Tree.fail)
noncomputable def F_ended : denAs [.c (.d insT), .c (.d partsT), .c (.d boolsT)] → denObs [] → Tree (AV × List Ob) := fun x y => match x, y with
  | (l, p, b, ()), () => ckP (lenOk l b ∧ endsOk l b p) (endedT l b p)
theorem ev_ended : ∀ a, (evalFnL Tryz.prog (lk L_split) 20 LT_ended Tryz.f31 c_ended [] (encAs [.c (.d insT), .c (.d partsT), .c (.d boolsT)] (ea_ended a)) (encOs [] (eo_ended a))).run = (E_ended a).run := by
  rintro ⟨l, p, b⟩
  kernel_rfl
theorem fe_ended : ∀ a y, (F_ended (ea_ended a) (eo_ended a)).run = some y → (E_ended a).run = some y := by
  rintro ⟨l, p, b⟩ y h
  obtain ⟨⟨h1, h2⟩, h⟩ := ckP_run h
  rw [← h]
  dsimp only [E_ended]
  change _ = (endedT l b p).run
  unfold endedT
  by_cases g : 64 < p.length
  · rw [goTd (by omega), goTd g]
  · refine (goFd (by omega)).trans (Eq.trans ?_ (goFd g).symm)
    exact goT (decP ⟨rfl, Int.le_refl 0, h1, h2, fun j hj => by omega⟩)
theorem ok_ended : SummOk Kn Tryz.prog 31 (sumT [.dp insT, .dp partsT, .dp boolsT] false [.c (.d insT), .c (.d partsT), .c (.d boolsT)] [] F_ended) := sumT_view tok_split Tryz.checked.mixed Tryz.func31 (by kernel_rfl) (by rfl) 20 [] ea_ended eo_ended
  (by rintro ⟨l, p, b, ⟨⟩⟩ ⟨⟩; exact ⟨(l, p, b), rfl, rfl⟩) LT_ended 0 (by rintro ⟨⟩; rfl) lok_ended E_ended ev_ended fe_ended
noncomputable def L_ended : List (Nat × Summ) := (31, (sumT [.dp insT, .dp partsT, .dp boolsT] false [.c (.d insT), .c (.d partsT), .c (.d boolsT)] [] F_ended)) :: L_split
theorem tok_ended : TOk Kn Tryz.prog (lk L_ended) := lk_cons ok_ended tok_split
noncomputable def ldsIs (l : Slots) (b : Bools) (ps : Parts) : Bool := (leadsI l b ps).isSome
noncomputable def ldsAt (l : Slots) (b : Bools) (ps : Parts) : Nat := (leadsI l b ps).getD 0
def ldIs (l : Slots) (b : Bools) (p : SubP) : Bool := (leadAt l b p).isSome
def ldAt (l : Slots) (b : Bools) (p : SubP) : Nat := (leadAt l b p).getD 0
noncomputable def leadsG (l : Slots) (b : Bools) (ps : Parts) : Tree (Ex × St) := .ite (ldsIs l b ps)
  (.ret (.ret, ⟨[(6, AV.c (.v (.int .i64 (ldsAt l b ps)))), (7, AV.c (.v (.bool false)))], [], 0⟩)) (.ret (.exit 0, ⟨[], [], 0⟩))
def leadG (l : Slots) (b : Bools) (f t : Int) (p : Parts) (n i : Int) : Tree (Ex × St) := .ite (ldIs l b (f, t, ()))
  (.ret (.ret, ⟨[(0, .p (.one (.d insT l))), (2, .p (.one (.d boolsT b))), (6, AV.c (.v (.int .i64 (ldAt l b (f, t, ()))))), (7, AV.c (.v (.bool false))), (13, .p (.one (.d partsT p))), (14, AV.c (.v (.int .i64 n))), (15, AV.c (.v (.int .i64 i)))], [], 0⟩))
  (.ret (.exit 2, ⟨[(0, .p (.one (.d insT l))), (2, .p (.one (.d boolsT b))), (13, .p (.one (.d partsT p))), (14, AV.c (.v (.int .i64 n))), (15, AV.c (.v (.int .i64 i)))], [], 0⟩))
noncomputable def leadsT (l : Slots) (b : Bools) (ps : Parts) : Tree (AV × List Ob) := .ite (ldsIs l b ps)
  (.ret (.t [.one (.v (.int .i64 (ldsAt l b ps))), .one (.v (.bool false))], [])) (.ret (.t [.one (.v (.int .i64 0)), .one (.v (.bool true))], []))
noncomputable abbrev c_leads : Code := Tryz.f32.body.getD .skip
def p_leads1 : List Nat := [0, 1, 0, 1]
def sh_leads1 : Shape := ⟨[(0, .c (.d insT)), (2, .c (.d boolsT)), (13, .c (.d partsT)), (14, .c (.i .i64)), (15, .c (.i .i64))], []⟩
@[reducible] def A_leads1 : Type := Slots × Bools × Parts × Int × Int
def e_leads1 : A_leads1 → sh_leads1.den := fun ⟨l, b, p, n, i⟩ => ((l, b, p, n, i, ()), ())
def v_leads1 : sh_leads1.den → A_leads1 := fun d => match d with
  | ((l, b, p, n, i, ()), ()) => (l, b, p, n, i)
def I_leads1 : A_leads1 → Prop := fun ⟨l, b, p, n, i⟩ => n = p.length ∧ 0 ≤ i ∧ lenOk l b ∧ partsIn l p ∧ ∀ j : Nat, (j : Int) < i → leadAt l b (partOf p j) = none
noncomputable def G_leads1 : A_leads1 → Tree (Ex × St) := fun ⟨l, b, p, n, i⟩ => leadsG l b p
noncomputable def orc_leads1 : Orc := ⟨sh_leads1, [], [6, 7], [], fun d => ckP (I_leads1 (v_leads1 d)) (G_leads1 (v_leads1 d))⟩
def p_leads2 : List Nat := [0, 1, 1, 0, 0, 1, 1, 0, 0, 1, 0, 1]
def sh_leads2 : Shape := ⟨[(0, .c (.d insT)), (2, .c (.d boolsT)), (9, .c (.p 0 0)), (10, .c (.i .i64)), (13, .c (.d partsT)), (14, .c (.i .i64)), (15, .c (.i .i64))], [.lit [.i .i64, .i .i64]]⟩
@[reducible] def A_leads2 : Type := Slots × Bools × Int × Int × Int × Parts × Int × Int
def e_leads2 : A_leads2 → sh_leads2.den := fun ⟨l, b, f, t, k, p, n, i⟩ => ((l, b, (), k, p, n, i, ()), ((f, t, ()), ()))
def v_leads2 : sh_leads2.den → A_leads2 := fun d => match d with
  | ((l, b, (), k, p, n, i, ()), ((f, t, ()), ())) => (l, b, f, t, k, p, n, i)
def I_leads2 : A_leads2 → Prop := fun ⟨l, b, f, t, k, p, n, i⟩ => lenOk l b ∧ 0 ≤ f ∧ f ≤ k ∧ t ≤ l.length ∧ ∀ j : Nat, f ≤ j → (j : Int) < k → leadBad l b (f, t, ()) j = false
noncomputable def G_leads2 : A_leads2 → Tree (Ex × St) := fun ⟨l, b, f, t, k, p, n, i⟩ => leadG l b f t p n i
noncomputable def orc_leads2 : Orc := ⟨sh_leads2, [], [0, 2, 6, 7, 13, 14, 15], [], fun d => ckP (I_leads2 (v_leads2 d)) (G_leads2 (v_leads2 d))⟩
noncomputable def LT_leads : LT := oneL p_leads1 orc_leads1 (oneL p_leads2 orc_leads2 (noL))
noncomputable def T_leads2 : Slots × Bools × Int × Int × Int × Parts × Int × Int → Tree (A_leads2 ⊕ (Ex × St)) := fun ⟨l, b, f, t, k, p, n, i⟩ => 
Tree.ite (decide (k < t)) (Tree.ite (decC ((0 : Int) ≤ k ∧ k < (↑(List.length l) : (ShA.c (ShC.i IntKind.i64)).den))) (Tree.ite (jumpsB (slotA l k.toNat).fst) (Tree.ite (decide ((0 : Int) ≤ k) && decide (k < (↑(List.length b) : Int))) (Tree.ite (!(List.getD b k.toNat (false, ())).fst) (Tree.ite (!decide (jumpI l k < f)) (Tree.ite (!decide (t ≤ jumpI l k)) (Tree.ite (decide ((0 : Int) ≤ jumpI l k) && decide (jumpI l k < (↑(List.length b) : Int))) (Tree.ite (List.getD b (jumpI l k).toNat (false, ())).fst (Tree.ret (Sum.inr (Ex.ret, { env := [((0 : Nat), AV.p (Part.one (Cell.d insT l))), ((2 : Nat), AV.p (Part.one (Cell.d boolsT b))), ((6 : Nat), AV.p (Part.one (Cell.v (Value.int IntKind.i64 k)))), ((7 : Nat), AV.p (Part.one (Cell.v (Value.bool false)))), ((13 : Nat), AV.p (Part.one (Cell.d partsT p))), ((14 : Nat), AV.p (Part.one (Cell.v (Value.int IntKind.i64 n)))), ((15 : Nat), AV.p (Part.one (Cell.v (Value.int IntKind.i64 i))))], hp := [], nx := (0 : Nat) }))) (Tree.ret (Sum.inl (l, b, f, t, IntKind.i64.wrap (k + (1 : Int)), p, n, i)))) Tree.fail) (Tree.ret (Sum.inr (Ex.ret, { env := [((0 : Nat), AV.p (Part.one (Cell.d insT l))), ((2 : Nat), AV.p (Part.one (Cell.d boolsT b))), ((6 : Nat), AV.p (Part.one (Cell.v (Value.int IntKind.i64 k)))), ((7 : Nat), AV.p (Part.one (Cell.v (Value.bool false)))), ((13 : Nat), AV.p (Part.one (Cell.d partsT p))), ((14 : Nat), AV.p (Part.one (Cell.v (Value.int IntKind.i64 n)))), ((15 : Nat), AV.p (Part.one (Cell.v (Value.int IntKind.i64 i))))], hp := [], nx := (0 : Nat) })))) (Tree.ret (Sum.inr (Ex.ret, { env := [((0 : Nat), AV.p (Part.one (Cell.d insT l))), ((2 : Nat), AV.p (Part.one (Cell.d boolsT b))), ((6 : Nat), AV.p (Part.one (Cell.v (Value.int IntKind.i64 k)))), ((7 : Nat), AV.p (Part.one (Cell.v (Value.bool false)))), ((13 : Nat), AV.p (Part.one (Cell.d partsT p))), ((14 : Nat), AV.p (Part.one (Cell.v (Value.int IntKind.i64 n)))), ((15 : Nat), AV.p (Part.one (Cell.v (Value.int IntKind.i64 i))))], hp := [], nx := (0 : Nat) })))) (Tree.ret (Sum.inl (l, b, f, t, IntKind.i64.wrap (k + (1 : Int)), p, n, i)))) Tree.fail) (Tree.ret (Sum.inl (l, b, f, t, IntKind.i64.wrap (k + (1 : Int)), p, n, i)))) Tree.fail) (Tree.ret (Sum.inr (Ex.exit (2 : Nat), { env := [((0 : Nat), AV.p (Part.one (Cell.d insT l))), ((2 : Nat), AV.p (Part.one (Cell.d boolsT b))), ((13 : Nat), AV.p (Part.one (Cell.d partsT p))), ((14 : Nat), AV.p (Part.one (Cell.v (Value.int IntKind.i64 n)))), ((15 : Nat), AV.p (Part.one (Cell.v (Value.int IntKind.i64 i))))], hp := [], nx := (0 : Nat) })))
theorem turn_leads2 : ∀ a : A_leads2, (turnT 0 orc_leads2 (evalCode Tryz.prog (lk L_ended) Tryz.f32.ntmps 0 20 LT_leads (bodyAt c_leads p_leads2) false (0 :: p_leads2)) (sh_leads2.enc (e_leads2 a))).run = ((T_leads2 a).bind fun s => .ret (turnV sh_leads2 e_leads2 s)).run := by
  rintro ⟨l, b, f, t, k, p, n, i⟩
  kernel_rfl
def μ_leads2 : A_leads2 → Nat := fun ⟨l, b, f, t, k, p, n, i⟩ => (t - k).toNat
theorem step_leads2 : ∀ a : A_leads2, I_leads2 a → (∃ a', (T_leads2 a).run = some (.inl a') ∧ I_leads2 a' ∧ μ_leads2 a' < μ_leads2 a ∧ (G_leads2 a').run = (G_leads2 a).run) ∨ (∃ y, (T_leads2 a).run = some (.inr y) ∧ (G_leads2 a).run = some y ∧ ((∃ id, y.1 = .exit id) ∨ y.1 = .ret)) := by
  rintro ⟨l, b, f, t, k, p, n, i⟩ ⟨h1, h2, h3, h4, h5⟩
  obtain ⟨h6, h7⟩ := h1
  simp only [T_leads2]
  have hG : leadBad l b (f, t, ()) k.toNat = true → k < t → (G_leads2 (l, b, f, t, k, p, n, i)).run = some (.ret, ⟨[(0, .p (.one (.d insT l))), (2, .p (.one (.d boolsT b))), (6, AV.c (.v (.int .i64 k))), (7, AV.c (.v (.bool false))), (13, .p (.one (.d partsT p))), (14, AV.c (.v (.int .i64 n))), (15, AV.c (.v (.int .i64 i)))], [], 0⟩) := fun hg hk => by
    have hf : leadAt l b (f, t, ()) = some k.toNat := scan_some (by change f.toNat ≤ _; omega) (by change k.toNat < f.toNat + (t - f).toNat; omega) hg fun j g1 g2 => h5 j (by change f.toNat ≤ j at g1; omega) (by omega)
    simp only [G_leads2, leadG]
    rw [goT (by unfold ldIs; rw [hf]; rfl), show ldAt l b (f, t, ()) = k.toNat by unfold ldAt; rw [hf]; rfl, ofToNat (by omega)]; rfl
  by_cases hk : k < t
  · have hb : leadBad l b (f, t, ()) k.toNat = (jumpsB (slotA l k.toNat).1 && !(b.getD k.toNat (false, ())).1 && (decide (jumpI l k < f) || decide (t ≤ jumpI l k) || (b.getD (jumpI l k).toNat (false, ())).1)) := by
      unfold leadBad secA
      rw [ofToNat (by omega)]
    have next : leadBad l b (f, t, ()) k.toNat = false → I_leads2 (l, b, f, t, k + 1, p, n, i) ∧ μ_leads2 (l, b, f, t, k + 1, p, n, i) < μ_leads2 (l, b, f, t, k, p, n, i) := fun hg =>
      ⟨⟨⟨h6, h7⟩, h2, by omega, h4, fun j g1 g2 => by
        by_cases e : (j : Int) = k
        · have : j = k.toNat := by omega
          rw [this]; exact hg
        · exact h5 j g1 (by omega)⟩, by simp only [μ_leads2]; omega⟩
    rw [goTd hk, goT (decP ⟨by omega, by omega⟩), wrap64 (n := k + 1) (by omega) (by omega)]
    cases c1 : jumpsB (slotA l k.toNat).1 with
    | false =>
      rw [c1] at hb
      left
      rw [goF rfl]
      exact ⟨_, rfl, (next hb).1, (next hb).2, rfl⟩
    | true =>
      rw [c1] at hb
      rw [goT rfl, goTa ⟨by omega, by omega⟩]
      cases c2 : (b.getD k.toNat (false, ())).1 with
      | true =>
        rw [c2] at hb
        left
        rw [goFN rfl]
        exact ⟨_, rfl, (next hb).1, (next hb).2, rfl⟩
      | false =>
        rw [c2] at hb
        rw [goTN rfl]
        by_cases c3 : jumpI l k < f
        · right
          rw [decide_eq_true c3] at hb
          rw [goFn c3]
          exact ⟨_, rfl, hG hb hk, .inr rfl⟩
        · rw [decide_eq_false c3] at hb
          rw [goTn c3]
          by_cases c4 : t ≤ jumpI l k
          · right
            rw [decide_eq_true c4] at hb
            rw [goFn c4]
            exact ⟨_, rfl, hG hb hk, .inr rfl⟩
          · rw [decide_eq_false c4] at hb
            rw [goTn c4, goTa ⟨by omega, by omega⟩]
            cases c5 : (b.getD (jumpI l k).toNat (false, ())).1 with
            | true =>
              rw [c5] at hb
              right
              rw [goT rfl]
              exact ⟨_, rfl, hG hb hk, .inr rfl⟩
            | false =>
              rw [c5] at hb
              left
              rw [goF rfl]
              exact ⟨_, rfl, (next hb).1, (next hb).2, rfl⟩
  · right
    rw [goFd hk]
    refine ⟨_, rfl, ?_, .inl ⟨2, rfl⟩⟩
    have hf : leadAt l b (f, t, ()) = none := scan_none fun j g1 g2 => h5 j (by change f.toNat ≤ j at g1; omega) (by change j < f.toNat + (t - f).toNat at g2; omega)
    simp only [G_leads2, leadG]
    rw [goF (by unfold ldIs; rw [hf]; rfl)]; rfl
noncomputable def T_leads1 : Slots × Bools × Parts × Int × Int → Tree (A_leads1 ⊕ (Ex × St)) := fun ⟨l, b, p, n, i⟩ => 
Tree.ite (decide (i < n)) (Tree.ite (decide ((0 : Int) ≤ i) && decide (i < (↑(List.length p) : Int))) (Tree.ite (decC (lenOk l b ∧ (0 : Int) ≤ (List.getD p i.toNat ((0 : Int), (0 : Int), ())).fst ∧ (List.getD p i.toNat ((0 : Int), (0 : Int), ())).fst ≤ (List.getD p i.toNat ((0 : Int), (0 : Int), ())).fst ∧ (List.getD p i.toNat ((0 : Int), (0 : Int), ())).snd.fst ≤ (↑(List.length l) : Int) ∧ ∀ (j : Nat), (List.getD p i.toNat ((0 : Int), (0 : Int), ())).fst ≤ (↑j : Int) → (↑j : Int) < (List.getD p i.toNat ((0 : Int), (0 : Int), ())).fst → leadBad l b ((List.getD p i.toNat ((0 : Int), (0 : Int), ())).fst, (List.getD p i.toNat ((0 : Int), (0 : Int), ())).snd.fst, ()) j = false)) (Tree.ite (ldIs l b ((List.getD p i.toNat ((0 : Int), (0 : Int), ())).fst, (List.getD p i.toNat ((0 : Int), (0 : Int), ())).snd.fst, ())) (Tree.ret (Sum.inr (Ex.ret, { env := [((6 : Nat), AV.p (Part.one (Cell.v (Value.int IntKind.i64 (↑(ldAt l b ((List.getD p i.toNat ((0 : Int), (0 : Int), ())).fst, (List.getD p i.toNat ((0 : Int), (0 : Int), ())).snd.fst, ())) : Int))))), ((7 : Nat), AV.p (Part.one (Cell.v (Value.bool false))))], hp := [], nx := (0 : Nat) }))) (Tree.ret (Sum.inl (l, b, p, n, IntKind.i64.wrap (i + (1 : Int)))))) Tree.fail) Tree.fail) (Tree.ret (Sum.inr (Ex.exit (0 : Nat), { env := [], hp := [], nx := (0 : Nat) })))
theorem turn_leads1 : ∀ a : A_leads1, (turnT 0 orc_leads1 (evalCode Tryz.prog (lk L_ended) Tryz.f32.ntmps 0 20 LT_leads (bodyAt c_leads p_leads1) false (0 :: p_leads1)) (sh_leads1.enc (e_leads1 a))).run = ((T_leads1 a).bind fun s => .ret (turnV sh_leads1 e_leads1 s)).run := by
  rintro ⟨l, b, p, n, i⟩
  kernel_rfl
def μ_leads1 : A_leads1 → Nat := fun ⟨l, b, p, n, i⟩ => p.length - i.toNat
theorem step_leads1 : ∀ a : A_leads1, I_leads1 a → (∃ a', (T_leads1 a).run = some (.inl a') ∧ I_leads1 a' ∧ μ_leads1 a' < μ_leads1 a ∧ (G_leads1 a').run = (G_leads1 a).run) ∨ (∃ y, (T_leads1 a).run = some (.inr y) ∧ (G_leads1 a).run = some y ∧ ((∃ id, y.1 = .exit id) ∨ y.1 = .ret)) := by
  rintro ⟨l, b, p, n, i⟩ ⟨rfl, h1, h2, h3, h4⟩
  obtain ⟨h7, h8⟩ := h3
  simp only [T_leads1]
  by_cases hi : i < p.length
  · rw [goTd hi, goTa ⟨h1, hi⟩, wrap64 (n := i + 1) (by omega) (by omega)]
    obtain ⟨a1, a2⟩ := h8 i.toNat (by omega)
    refine (?_ : ?A ∨ ?B)
    have hd : ∀ (p : Prop), p → decC p = true := fun p hp => decP hp
    rw [goT (decP ⟨h2, a1, Int.le_refl _, a2, fun j g1 g2 => by omega⟩)]
    cases hl : leadAt l b (partOf p i.toNat) with
    | none =>
      left
      rw [goF (show ldIs l b _ = false from by unfold ldIs; exact congrArg Option.isSome hl)]
      exact ⟨_, rfl, ⟨rfl, by omega, h2, ⟨h7, h8⟩, all_succ h1 h4 hl⟩, by simp only [μ_leads1]; omega, rfl⟩
    | some k =>
      right
      rw [goT (show ldIs l b _ = true from by unfold ldIs; exact congrArg Option.isSome hl)]
      have hf : leadsI l b p = some k := by
        unfold leadsI
        rw [scan_hit h1 hi (fun j hj => by rw [h4 j hj]; rfl) (by rw [hl]; rfl)]
        exact hl
      refine ⟨_, rfl, ?_, .inr rfl⟩
      simp only [G_leads1, leadsG]
      rw [goT (by unfold ldsIs; rw [hf]; rfl), show ldsAt l b p = k by unfold ldsAt; rw [hf]; rfl]
      rw [show ldAt l b ((p.getD i.toNat (0, 0, ())).1, (p.getD i.toNat (0, 0, ())).2.1, ()) = k by unfold ldAt; exact congrArg (Option.getD · 0) hl]
      rfl
  · right
    rw [goFd hi]
    refine ⟨_, rfl, ?_, .inl ⟨0, rfl⟩⟩
    have hf : leadsI l b p = none := by
      unfold leadsI
      rw [scan_end hi fun j hj => by rw [h4 j hj]; rfl]
    simp only [G_leads1, leadsG]
    rw [goF (by unfold ldsIs; rw [hf]; rfl)]; rfl
theorem lok_leads : LOk Tryz.prog (lk L_ended) Tryz.f32.ntmps 0 20 LT_leads c_leads := lok_view (lok_view (noL_ok2 _ _ _ _ _ _ _) (by kernel_rfl) e_leads2 (by rintro ⟨⟨l, b, ⟨⟩, k, p, n, i, ⟨⟩⟩, ⟨⟨f, t, ⟨⟩⟩, ⟨⟩⟩⟩; exact ⟨(l, b, f, t, k, p, n, i), rfl⟩) T_leads2 turn_leads2 I_leads2 G_leads2 (by rintro ⟨l, b, f, t, k, p, n, i⟩; rfl) μ_leads2 step_leads2) (by kernel_rfl) e_leads1 (by rintro ⟨⟨l, b, p, n, i, ⟨⟩⟩, ⟨⟩⟩; exact ⟨(l, b, p, n, i), rfl⟩) T_leads1 turn_leads1 I_leads1 G_leads1 (by rintro ⟨l, b, p, n, i⟩; rfl) μ_leads1 step_leads1
def ea_leads : Slots × Parts × Bools → denAs [.c (.d insT), .c (.d partsT), .c (.d boolsT)] := fun ⟨l, p, b⟩ => (l, p, b, ())
def eo_leads : Slots × Parts × Bools → denObs [] := fun ⟨l, p, b⟩ => ()
noncomputable def E_leads : Slots × Parts × Bools → Tree (AV × List Ob) := fun ⟨l, p, b⟩ => 
Tree.ite (decC ((↑(List.length p) : Int) = (↑(List.length p) : Int) ∧ (0 : Int) ≤ (0 : Int) ∧ lenOk l b ∧ partsIn l p ∧ ∀ (j : Nat), (↑j : Int) < (0 : Int) → leadAt l b (In.partOf p j) = none)) (Tree.ite (ldsIs l b p) (Tree.ret (AV.t [Part.one (Cell.v (Value.int IntKind.i64 (↑(ldsAt l b p) : Int))), Part.one (Cell.v (Value.bool false))], [])) (Tree.ret (AV.t [Part.one (Cell.v (Value.int IntKind.i64 (0 : Int))), Part.one (Cell.v (Value.bool true))], []))) Tree.fail
noncomputable def F_leads : denAs [.c (.d insT), .c (.d partsT), .c (.d boolsT)] → denObs [] → Tree (AV × List Ob) := fun x y => match x, y with
  | (l, p, b, ()), () => ckP (lenOk l b ∧ partsIn l p) (leadsT l b p)
theorem ev_leads : ∀ a, (evalFnL Tryz.prog (lk L_ended) 20 LT_leads Tryz.f32 c_leads [] (encAs [.c (.d insT), .c (.d partsT), .c (.d boolsT)] (ea_leads a)) (encOs [] (eo_leads a))).run = (E_leads a).run := by
  rintro ⟨l, p, b⟩
  kernel_rfl
theorem fe_leads : ∀ a y, (F_leads (ea_leads a) (eo_leads a)).run = some y → (E_leads a).run = some y := by
  rintro ⟨l, p, b⟩ y h
  obtain ⟨⟨h1, h2⟩, h⟩ := ckP_run h
  rw [← h]
  dsimp only [E_leads]
  exact goT (decP ⟨rfl, Int.le_refl 0, h1, h2, fun j hj => by omega⟩)
theorem ok_leads : SummOk Kn Tryz.prog 32 (sumT [.dp insT, .dp partsT, .dp boolsT] false [.c (.d insT), .c (.d partsT), .c (.d boolsT)] [] F_leads) := sumT_view tok_ended Tryz.checked.mixed Tryz.func32 (by kernel_rfl) (by rfl) 20 [] ea_leads eo_leads
  (by rintro ⟨l, p, b, ⟨⟩⟩ ⟨⟩; exact ⟨(l, p, b), rfl, rfl⟩) LT_leads 0 (by rintro ⟨⟩; rfl) lok_leads E_leads ev_leads fe_leads
noncomputable def L_leads : List (Nat × Summ) := (32, (sumT [.dp insT, .dp partsT, .dp boolsT] false [.c (.d insT), .c (.d partsT), .c (.d boolsT)] [] F_leads)) :: L_ended
theorem tok_leads : TOk Kn Tryz.prog (lk L_leads) := lk_cons ok_leads tok_ended
end Go.Proofs.YtpocmhfgnpgikaaGreatDoor
