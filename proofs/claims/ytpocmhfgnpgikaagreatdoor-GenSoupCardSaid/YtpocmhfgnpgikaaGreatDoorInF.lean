/-
  The contracts of the reference's checks (written by our own gen_inf.py).
-/
import Derived.Test.YtpocmhfgnpgikaaGreatDoorInE
namespace Go.Proofs.YtpocmhfgnpgikaaGreatDoor
open Go Go.Sy Go.Sz Go.In Go.Proofs.YtpocmhfgnpgikaaGreatDoor
set_option linter.unusedVariables false
set_option linter.unusedSimpArgs false
set_option linter.constructorNameAsVariable false
set_option maxRecDepth 100000
def AllKnown (l : Slots) : Prop := ∀ k, k < l.length → secA (secs l) k = false → B_known (slotA l k).1 (slotA l k).2.1 (slotA l k).2.2.1 (slotA l k).2.2.2.1 (slotA l k).2.2.2.2.1 = true
theorem good_known {l : Slots} (h : firstBad l (secs l) = none) : AllKnown l := fun k hk hs => (wrong_zero (good_all h hk hs)).1
theorem class5r : ∀ o : BitVec 8, (((o % BitVec.ofInt 8 8).toNat : Int) == 5) = (o % BitVec.ofInt 8 8 == BitVec.ofInt 8 5) ∧ (((o / BitVec.ofInt 8 16).toNat : Int) == 0) = (o / BitVec.ofInt 8 16 == BitVec.ofInt 8 0) ∧ (((o / BitVec.ofInt 8 16).toNat : Int) == 9) = (o / BitVec.ofInt 8 16 == BitVec.ofInt 8 9) := by decide +kernel
noncomputable abbrev c_rsec : Code := Tryz.f14.body.getD .skip
def p_rsec : List Nat := [0, 1, 0, 1, 1]
def sh_rsec : Shape := ⟨[(0, .c (.d insT)), (3, .c (.h 0)), (4, .c (.i .i64))], [.row boolsT]⟩
@[reducible] def A_rsec : Type := Slots × Int × Bools
def e_rsec : A_rsec → sh_rsec.den := fun ⟨l, i, o⟩ => ((l, (), i, ()), (o, ()))
def v_rsec : sh_rsec.den → A_rsec := fun d => match d with
  | ((l, (), i, ()), (o, ())) => (l, i, o)
def I_rsec : A_rsec → Prop := fun ⟨l, i, o⟩ => 1 ≤ i ∧ l.length ≤ 140737488355328 ∧ o.length = l.length ∧ ∀ j : Nat, (j : Int) < i → (o.getD j (false, ())).1 = secB l j
noncomputable def G_rsec : A_rsec → Tree (Ex × St) := fun ⟨l, i, o⟩ => .ret (.exit 0, ⟨[(3, .p (.one (.h 0)))], [(0, .row boolsT (secs l))], 1⟩)
noncomputable def orc_rsec : Orc := ⟨sh_rsec, [], [3], [], fun d => ckP (I_rsec (v_rsec d)) (G_rsec (v_rsec d))⟩
noncomputable def LT_rsec : LT := oneL p_rsec orc_rsec (noL)
noncomputable def T_rsec : Slots × Int × Bools → Tree (A_rsec ⊕ (Ex × St)) := fun ⟨l, i, o⟩ => 
Tree.ite (decide (i < (↑(List.length l) : Int))) (Tree.ite (decide ((0 : Int) ≤ IntKind.i64.wrap (i - (1 : Int))) && decide (IntKind.i64.wrap (i - (1 : Int)) < (↑(List.length l) : Int))) (Tree.ite ((List.getD l (IntKind.i64.wrap (i - (1 : Int))).toNat noIns).fst == BitVec.ofInt (8 : Nat) (24 : Int)) (Tree.ite (decide ((0 : Int) ≤ IntKind.i64.wrap (i - (1 : Int))) && decide (IntKind.i64.wrap (i - (1 : Int)) < (↑(List.length o) : Int))) (Tree.ite (decide ((0 : Int) ≤ i) && decide (i < (↑(List.length o) : Int))) (Tree.ret (Sum.inl (l, IntKind.i64.wrap (i + (1 : Int)), List.set o i.toNat (!(List.getD o (IntKind.i64.wrap (i - (1 : Int))).toNat (false, ())).fst, (List.getD o i.toNat (false, ())).snd)))) Tree.fail) Tree.fail) (Tree.ite (decide ((0 : Int) ≤ i) && decide (i < (↑(List.length o) : Int))) (Tree.ret (Sum.inl (l, IntKind.i64.wrap (i + (1 : Int)), List.set o i.toNat (false, (List.getD o i.toNat (false, ())).snd)))) Tree.fail)) Tree.fail) (Tree.ret (Sum.inr (Ex.exit (0 : Nat), { env := [((3 : Nat), AV.p (Part.one (Cell.h (0 : Nat))))], hp := [((0 : Nat), Ob.row boolsT o)], nx := (1 : Nat) })))
theorem turn_rsec : ∀ a : A_rsec, (turnT 0 orc_rsec (evalCode Tryz.prog (lk L_sbs) Tryz.f14.ntmps 0 20 LT_rsec (bodyAt c_rsec p_rsec) false (0 :: p_rsec)) (sh_rsec.enc (e_rsec a))).run = ((T_rsec a).bind fun s => .ret (turnV sh_rsec e_rsec s)).run := by
  rintro ⟨l, i, o⟩
  kernel_rfl
def μ_rsec : A_rsec → Nat := fun ⟨l, i, o⟩ => l.length - i.toNat
theorem step_rsec : ∀ a : A_rsec, I_rsec a → (∃ a', (T_rsec a).run = some (.inl a') ∧ I_rsec a' ∧ μ_rsec a' < μ_rsec a ∧ (G_rsec a').run = (G_rsec a).run) ∨ (∃ y, (T_rsec a).run = some (.inr y) ∧ (G_rsec a).run = some y ∧ ((∃ id, y.1 = .exit id) ∨ y.1 = .ret)) := by
  rintro ⟨l, i, o⟩ ⟨h1, h2, h3, h4⟩
  simp only [T_rsec]
  by_cases hi : i < l.length
  · left
    rw [goTd hi, wrap64 (n := i - 1) (by omega) (by omega), goTa ⟨by omega, by omega⟩, wrap64 (n := i + 1) (by omega) (by omega)]
    have e0 : i.toNat = (i - 1).toNat + 1 := by omega
    have es : secB l i.toNat = (opA l (i - 1).toNat == BitVec.ofInt 8 24 && !secB l (i - 1).toNat) := by rw [e0]; rfl
    have hp := h4 (i - 1).toNat (by omega)
    have key : ∀ (v : Bool) (u : Unit), v = secB l i.toNat → ∀ j : Nat, (j : Int) < i + 1 → ((o.set i.toNat (v, u)).getD j (false, ())).1 = secB l j := fun v u hv j hj => by
      rw [getD_set _ _ _ _ _ (by omega)]
      by_cases e : j = i.toNat
      · rw [if_pos e, e]; exact hv
      · rw [if_neg e]; exact h4 j (by omega)
    cases ho : ((l.getD (i - 1).toNat noIns).1 == BitVec.ofInt 8 24) with
    | true =>
      rw [goT rfl, goTa ⟨by omega, by omega⟩, goTa ⟨by omega, by omega⟩]
      refine ⟨_, rfl, ⟨by omega, h2, by rw [List.length_set]; exact h3, key _ _ ?_⟩, by simp only [μ_rsec]; omega, rfl⟩
      rw [es, hp]
      change _ = (((l.getD (i - 1).toNat noIns).1 == BitVec.ofInt 8 24) && _)
      rw [ho]; rfl
    | false =>
      rw [goF rfl, goTa ⟨by omega, by omega⟩]
      refine ⟨_, rfl, ⟨by omega, h2, by rw [List.length_set]; exact h3, key _ _ ?_⟩, by simp only [μ_rsec]; omega, rfl⟩
      rw [es]
      change _ = (((l.getD (i - 1).toNat noIns).1 == BitVec.ofInt 8 24) && _)
      rw [ho]; rfl
  · right
    rw [goFd hi]
    refine ⟨_, rfl, ?_, .inl ⟨0, rfl⟩⟩
    simp only [G_rsec, Tree.run]
    rw [secs_ext h3 fun j hj => h4 j (by omega)]
theorem lok_rsec : LOk Tryz.prog (lk L_sbs) Tryz.f14.ntmps 0 20 LT_rsec c_rsec := lok_view (noL_ok2 _ _ _ _ _ _ _) (by kernel_rfl) e_rsec (by rintro ⟨⟨l, ⟨⟩, i, ⟨⟩⟩, ⟨o, ⟨⟩⟩⟩; exact ⟨(l, i, o), rfl⟩) T_rsec turn_rsec I_rsec G_rsec (by rintro ⟨l, i, o⟩; rfl) μ_rsec step_rsec
def ea_rsec : Slots → denAs [.c (.d insT)] := fun l => (l, ())
def eo_rsec : Slots → denObs [] := fun l => ()
noncomputable def E_rsec : Slots → Tree (AV × List Ob) := fun l => 
Tree.ite (decide ((0 : Int) ≤ (↑(List.length l) : Int)) && (decide ((↑(List.length l) : Int) ≤ (↑(List.length l) : Int)) && (decide ((↑(List.length l) : Int) ≤ (140737488355328 : Int)) && bytesOk (↑(List.length l) : Int).toNat (1 : Nat)))) (Tree.ite (decC ((1 : Int) ≤ (1 : Int) ∧ List.length l ≤ (140737488355328 : Nat) ∧ (List.replicate (↑(List.length l) : Int).toNat (false, ())).length = List.length l ∧ ∀ (j : Nat), (↑j : Int) < (1 : Int) → ((List.replicate (↑(List.length l) : Int).toNat (false, ())).getD j (false, ())).fst = secB l j)) (Tree.ret (AV.p (Part.one (Cell.h (0 : Nat))), [Ob.row boolsT (secs l)])) Tree.fail) Tree.fail
noncomputable def F_rsec : denAs [.c (.d insT)] → denObs [] → Tree (AV × List Ob) := fun x y => match x, y with
  | (l, ()), () => ckP (l.length ≤ 140737488355328) (.ret (AV.c (.h 0), [.row boolsT (secs l)]))
theorem ev_rsec : ∀ a, (evalFnL Tryz.prog (lk L_sbs) 20 LT_rsec Tryz.f14 c_rsec [] (encAs [.c (.d insT)] (ea_rsec a)) (encOs [] (eo_rsec a))).run = (E_rsec a).run := by
  rintro l
  kernel_rfl
theorem fe_rsec : ∀ a y, (F_rsec (ea_rsec a) (eo_rsec a)).run = some y → (E_rsec a).run = some y := by
  rintro l y h
  obtain ⟨h1, h⟩ := ckP_run h
  rw [← h]
  change l.length ≤ 140737488355328 at h1
  dsimp only [E_rsec]
  refine (goT ?_).trans ((goT (decP ⟨Int.le_refl 1, h1, ?_, ?_⟩)).trans rfl)
  · simp only [bytesOk_dec, and_dec, decide_eq_true_eq]; omega
  · simp
  · intro j hj
    have : j = 0 := by omega
    subst this
    rw [List.getD_eq_getElem?_getD, List.getElem?_replicate]
    split <;> rfl
theorem ok_rsec : SummOk Kn Tryz.prog 14 (sumT [.dp insT] false [.c (.d insT)] [] F_rsec) := sumT_view tok_sbs Tryz.checked.mixed Tryz.func14 (by kernel_rfl) (by rfl) 20 [] ea_rsec eo_rsec
  (by rintro ⟨l, ⟨⟩⟩ ⟨⟩; exact ⟨l, rfl, rfl⟩) LT_rsec 0 (by rintro ⟨⟩; rfl) lok_rsec E_rsec ev_rsec fe_rsec
noncomputable def L_rsec : List (Nat × Summ) := (14, (sumT [.dp insT] false [.c (.d insT)] [] F_rsec)) :: L_sbs
theorem tok_rsec : TOk Kn Tryz.prog (lk L_rsec) := lk_cons ok_rsec tok_sbs
def ofG (p : Parts) (k : Int) : Tree (Ex × St) := .ite (ofIs p k) (.ret (.ret, ⟨[(4, AV.c (.v (.int .i64 (ofAt p k))))], [], 0⟩)) (.ret (.exit 0, ⟨[], [], 0⟩))
noncomputable abbrev c_of : Code := Tryz.f18.body.getD .skip
def p_of : List Nat := [0, 1, 0, 1]
def sh_of : Shape := ⟨[(0, .c (.d partsT)), (1, .c (.i .i64)), (5, .c (.i .i64))], []⟩
@[reducible] def A_of : Type := Parts × Int × Int
def e_of : A_of → sh_of.den := fun ⟨p, k, i⟩ => ((p, k, i, ()), ())
def v_of : sh_of.den → A_of := fun d => match d with
  | ((p, k, i, ()), ()) => (p, k, i)
def I_of : A_of → Prop := fun ⟨p, k, i⟩ => 0 ≤ i ∧ p.length ≤ 1000000 ∧ ∀ j : Nat, (j : Int) < i → inPart (partOf p j) k = false
noncomputable def G_of : A_of → Tree (Ex × St) := fun ⟨p, k, i⟩ => ofG p k
noncomputable def orc_of : Orc := ⟨sh_of, [], [4], [], fun d => ckP (I_of (v_of d)) (G_of (v_of d))⟩
noncomputable def LT_of : LT := oneL p_of orc_of (noL)
noncomputable def T_of : Parts × Int × Int → Tree (A_of ⊕ (Ex × St)) := fun ⟨p, k, i⟩ => 
Tree.ite (decide (i < (↑(List.length p) : Int))) (Tree.ite (decide ((0 : Int) ≤ i) && decide (i < (↑(List.length p) : Int))) (Tree.ite (decide ((List.getD p i.toNat ((0 : Int), (0 : Int), ())).fst ≤ k)) (Tree.ite (decide ((0 : Int) ≤ i) && decide (i < (↑(List.length p) : Int))) (Tree.ite (decide (k < (List.getD p i.toNat ((0 : Int), (0 : Int), ())).snd.fst)) (Tree.ret (Sum.inr (Ex.ret, { env := [((4 : Nat), AV.p (Part.one (Cell.v (Value.int IntKind.i64 i))))], hp := [], nx := (0 : Nat) }))) (Tree.ret (Sum.inl (p, k, IntKind.i64.wrap (i + (1 : Int)))))) Tree.fail) (Tree.ret (Sum.inl (p, k, IntKind.i64.wrap (i + (1 : Int)))))) Tree.fail) (Tree.ret (Sum.inr (Ex.exit (0 : Nat), { env := [], hp := [], nx := (0 : Nat) })))
theorem turn_of : ∀ a : A_of, (turnT 0 orc_of (evalCode Tryz.prog (lk L_rsec) Tryz.f18.ntmps 0 20 LT_of (bodyAt c_of p_of) false (0 :: p_of)) (sh_of.enc (e_of a))).run = ((T_of a).bind fun s => .ret (turnV sh_of e_of s)).run := by
  rintro ⟨p, k, i⟩
  kernel_rfl
def μ_of : A_of → Nat := fun ⟨p, k, i⟩ => p.length - i.toNat
theorem step_of : ∀ a : A_of, I_of a → (∃ a', (T_of a).run = some (.inl a') ∧ I_of a' ∧ μ_of a' < μ_of a ∧ (G_of a').run = (G_of a).run) ∨ (∃ y, (T_of a).run = some (.inr y) ∧ (G_of a).run = some y ∧ ((∃ id, y.1 = .exit id) ∨ y.1 = .ret)) := by
  rintro ⟨p, k, i⟩ ⟨h1, h2, h3⟩
  simp only [T_of]
  by_cases hi : i < p.length
  · rw [goTd hi, goTa ⟨h1, hi⟩, wrap64 (n := i + 1) (by omega) (by omega)]
    have e : inPart (partOf p i.toNat) k = (decide ((p.getD i.toNat (0, 0, ())).1 ≤ k) && decide (k < (p.getD i.toNat (0, 0, ())).2.1)) := rfl
    by_cases c1 : (p.getD i.toNat (0, 0, ())).1 ≤ k
    · rw [goTd c1, goTa ⟨h1, hi⟩]
      by_cases c2 : k < (p.getD i.toNat (0, 0, ())).2.1
      · right
        rw [goTd c2]
        refine ⟨_, rfl, ?_, .inr rfl⟩
        have hf : ofO p k = some i.toNat := scan_hit h1 hi h3 (by rw [e, decide_eq_true c1, decide_eq_true c2]; rfl)
        simp only [G_of, ofG]
        rw [goT (by unfold ofIs; rw [hf]; rfl), show ofAt p k = i.toNat by unfold ofAt; rw [hf]; rfl, ofToNat h1]; rfl
      · left
        rw [goFd c2]
        exact ⟨_, rfl, ⟨by omega, h2, all_succ h1 h3 (by rw [e, decide_eq_false c2, Bool.and_false])⟩, by simp only [μ_of]; omega, rfl⟩
    · left
      rw [goFd c1]
      exact ⟨_, rfl, ⟨by omega, h2, all_succ h1 h3 (by rw [e, decide_eq_false c1]; rfl)⟩, by simp only [μ_of]; omega, rfl⟩
  · right
    rw [goFd hi]
    refine ⟨_, rfl, ?_, .inl ⟨0, rfl⟩⟩
    have hf : ofO p k = none := scan_end hi h3
    simp only [G_of, ofG]
    rw [goF (by unfold ofIs; rw [hf]; rfl)]; rfl
theorem lok_of : LOk Tryz.prog (lk L_rsec) Tryz.f18.ntmps 0 20 LT_of c_of := lok_view (noL_ok2 _ _ _ _ _ _ _) (by kernel_rfl) e_of (by rintro ⟨⟨p, k, i, ⟨⟩⟩, ⟨⟩⟩; exact ⟨(p, k, i), rfl⟩) T_of turn_of I_of G_of (by rintro ⟨p, k, i⟩; rfl) μ_of step_of
def ea_of : Parts × Int → denAs [.c (.d partsT), .c (.i .i64)] := fun ⟨p, k⟩ => (p, k, ())
def eo_of : Parts × Int → denObs [] := fun ⟨p, k⟩ => ()
noncomputable def E_of : Parts × Int → Tree (AV × List Ob) := fun ⟨p, k⟩ => 
Tree.ite (decC ((0 : Int) ≤ (0 : Int) ∧ List.length p ≤ (1000000 : Nat) ∧ ∀ (j : Nat), (↑j : Int) < (0 : Int) → inPart (In.partOf p j) k = false)) (Tree.ite (ofIs p k) (Tree.ret (AV.p (Part.one (Cell.v (Value.int IntKind.i64 (↑(ofAt p k) : Int)))), [])) (Tree.ret (AV.p (Part.one (Cell.v (Value.int IntKind.i64 (-1 : Int)))), []))) Tree.fail
noncomputable def F_of : denAs [.c (.d partsT), .c (.i .i64)] → denObs [] → Tree (AV × List Ob) := fun x y => match x, y with
  | (p, k, ()), () => ckP (p.length ≤ 1000000) (.ret (AV.c (.v (.int .i64 (ofI p k))), []))
theorem ev_of : ∀ a, (evalFnL Tryz.prog (lk L_rsec) 20 LT_of Tryz.f18 c_of [] (encAs [.c (.d partsT), .c (.i .i64)] (ea_of a)) (encOs [] (eo_of a))).run = (E_of a).run := by
  rintro ⟨p, k⟩
  kernel_rfl
theorem fe_of : ∀ a y, (F_of (ea_of a) (eo_of a)).run = some y → (E_of a).run = some y := by
  rintro ⟨p, k⟩ y h
  obtain ⟨h1, h⟩ := ckP_run h
  rw [← h]
  change p.length ≤ 1000000 at h1
  dsimp only [E_of]
  refine (goT (decP ⟨Int.le_refl 0, h1, fun j hj => by omega⟩)).trans ?_
  change _ = some (AV.c (.v (.int .i64 (ofI p k))), [])
  unfold ofI
  cases ofIs p k <;> rfl
theorem ok_of : SummOk Kn Tryz.prog 18 (sumT [.dp partsT, .any] false [.c (.d partsT), .c (.i .i64)] [] F_of) := sumT_view tok_rsec Tryz.checked.mixed Tryz.func18 (by kernel_rfl) (by rfl) 20 [] ea_of eo_of
  (by rintro ⟨p, k, ⟨⟩⟩ ⟨⟩; exact ⟨(p, k), rfl, rfl⟩) LT_of 0 (by rintro ⟨⟩; rfl) lok_of E_of ev_of fe_of
noncomputable def L_of : List (Nat × Summ) := (18, (sumT [.dp partsT, .any] false [.c (.d partsT), .c (.i .i64)] [] F_of)) :: L_rsec
theorem tok_of : TOk Kn Tryz.prog (lk L_of) := lk_cons ok_of tok_rsec
noncomputable abbrev c_st : Code := Tryz.f34.body.getD .skip
def p_st1 : List Nat := [0, 1, 0, 1, 1, 1, 1]
def sh_st1 : Shape := ⟨[(0, .c (.d insT)), (3, .c (.h 0)), (4, .c (.h 1)), (5, .c (.i .i64))], [.row boolsT, .row boolsT]⟩
@[reducible] def A_st1 : Type := Slots × Int × Bools × Bools
def e_st1 : A_st1 → sh_st1.den := fun ⟨l, i, m, s⟩ => ((l, (), (), i, ()), (m, s, ()))
def v_st1 : sh_st1.den → A_st1 := fun d => match d with
  | ((l, (), (), i, ()), (m, s, ())) => (l, i, m, s)
def I_st1 : A_st1 → Prop := fun ⟨l, i, m, s⟩ => 0 ≤ i ∧ i ≤ l.length ∧ l.length ≤ 1000000 ∧ AllKnown l ∧ Targets l (secs l) ∧ s = secs l ∧ m = marksL l (secs l) i.toNat
noncomputable def G_st1 : A_st1 → Tree (Ex × St) := fun ⟨l, i, m, s⟩ => .ret (.exit 0, ⟨[(0, .p (.one (.d insT l))), (3, .p (.one (.h 0)))], [(0, .row boolsT (marksL l (secs l) l.length))], 1⟩)
noncomputable def orc_st1 : Orc := ⟨sh_st1, [], [0, 3], [], fun d => ckP (I_st1 (v_st1 d)) (G_st1 (v_st1 d))⟩
def p_st2 : List Nat := [0, 1, 0, 1, 1, 1, 1, 1, 1]
def sh_st2 : Shape := ⟨[(0, .c (.d insT)), (3, .c (.h 0)), (6, .c (.h 1)), (7, .c (.i .i64))], [.row boolsT, .row intsT]⟩
@[reducible] def A_st2 : Type := Slots × Int × Bools × Ints
def e_st2 : A_st2 → sh_st2.den := fun ⟨l, i, m, o⟩ => ((l, (), (), i, ()), (m, o, ()))
def v_st2 : sh_st2.den → A_st2 := fun d => match d with
  | ((l, (), (), i, ()), (m, o, ())) => (l, i, m, o)
def I_st2 : A_st2 → Prop := fun ⟨l, i, m, o⟩ => 0 ≤ i ∧ i ≤ l.length ∧ l.length ≤ 1000000 ∧ m = marksL l (secs l) l.length ∧ o = ints (fromsTo l (secs l) i.toNat)
noncomputable def G_st2 : A_st2 → Tree (Ex × St) := fun ⟨l, i, m, o⟩ => .ret (.exit 2, ⟨[(6, .p (.one (.h 0)))], [(0, .row intsT (ints (froms l (secs l))))], 1⟩)
noncomputable def orc_st2 : Orc := ⟨sh_st2, [(6, intsT)], [6], [], fun d => ckP (I_st2 (v_st2 d)) (G_st2 (v_st2 d))⟩
noncomputable def LT_st : LT := oneL p_st1 orc_st1 (oneL p_st2 orc_st2 (noL))
noncomputable def T_st2 : Slots × Int × Bools × Ints → Tree (A_st2 ⊕ (Ex × St)) := fun ⟨l, i, m, o⟩ => 
Tree.ite (decide (i < (↑(List.length l) : Int))) (Tree.ite (decide ((0 : Int) ≤ i) && decide (i < (↑(List.length m) : Int))) (Tree.ite (List.getD m i.toNat (false, ())).fst (Tree.ite (bytesOk (List.length o + (1 : Nat)) (8 : Nat) && (List.length o + (1 : Nat)).ble (140737488355328 : Nat)) (Tree.ret (Sum.inl (l, IntKind.i64.wrap (i + (1 : Int)), m, o ++ [(i, ())]))) Tree.fail) (Tree.ret (Sum.inl (l, IntKind.i64.wrap (i + (1 : Int)), m, o)))) Tree.fail) (Tree.ret (Sum.inr (Ex.exit (2 : Nat), { env := [((6 : Nat), AV.p (Part.one (Cell.h (0 : Nat))))], hp := [((0 : Nat), Ob.row intsT o)], nx := (1 : Nat) })))
theorem turn_st2 : ∀ a : A_st2, (turnT 0 orc_st2 (evalCode Tryz.prog (lk L_of) Tryz.f34.ntmps 0 20 LT_st (bodyAt c_st p_st2) false (0 :: p_st2)) (sh_st2.enc (e_st2 a))).run = ((T_st2 a).bind fun s => .ret (turnV sh_st2 e_st2 s)).run := by
  rintro ⟨l, i, m, o⟩
  kernel_rfl
def μ_st2 : A_st2 → Nat := fun ⟨l, i, m, o⟩ => l.length - i.toNat
theorem step_st2 : ∀ a : A_st2, I_st2 a → (∃ a', (T_st2 a).run = some (.inl a') ∧ I_st2 a' ∧ μ_st2 a' < μ_st2 a ∧ (G_st2 a').run = (G_st2 a).run) ∨ (∃ y, (T_st2 a).run = some (.inr y) ∧ (G_st2 a).run = some y ∧ ((∃ id, y.1 = .exit id) ∨ y.1 = .ret)) := by
  rintro ⟨l, i, m, o⟩ ⟨h1, h2, h3, rfl, rfl⟩
  simp only [T_st2]
  have hm := marksL_len l (secs l) l.length
  have ho := fromsTo_len l (secs l) i.toNat
  by_cases hi : i < l.length
  · left
    have hg : ((marksL l (secs l) l.length).getD i.toNat (false, ())).1 = isFrom l (secs l) i.toNat := by rw [marksL_get (by omega)]; rfl
    have hup := fromsTo_up l (secs l) i.toNat
    rw [← toNat_up h1, ofToNat h1] at hup
    rw [goTd hi, goTa ⟨h1, by omega⟩, wrap64 (n := i + 1) (by omega) (by omega), hg]
    cases c : isFrom l (secs l) i.toNat with
    | true =>
      rw [c] at hup
      rw [goT rfl, goTb ⟨by omega, by omega⟩]
      refine ⟨_, rfl, ⟨by omega, by omega, h3, rfl, ?_⟩, by simp only [μ_st2]; omega, rfl⟩
      rw [hup]; rfl
    | false =>
      rw [c] at hup
      rw [goF rfl]
      refine ⟨_, rfl, ⟨by omega, by omega, h3, rfl, ?_⟩, by simp only [μ_st2]; omega, rfl⟩
      rw [hup]; simp
  · right
    rw [goFd hi]
    refine ⟨_, rfl, ?_, .inl ⟨2, rfl⟩⟩
    simp only [G_st2, Tree.run]
    rw [show i.toNat = l.length by omega]; rfl
noncomputable def T_st1 : Slots × Int × Bools × Bools → Tree (A_st1 ⊕ (Ex × St)) := fun ⟨l, i, m, s⟩ => 
Tree.ite (decide (i < (↑(List.length l) : Int))) (Tree.ite (decide ((0 : Int) ≤ i) && decide (i < (↑(List.length s) : Int))) (Tree.ite (!(List.getD s i.toNat (false, ())).fst) (Tree.ite (decide ((0 : Int) ≤ i) && decide (i < (↑(List.length l) : Int))) (Tree.ite (B_rnames (List.getD l i.toNat noIns).fst (List.getD l i.toNat noIns).snd.fst (List.getD l i.toNat noIns).snd.snd.fst (List.getD l i.toNat noIns).snd.snd.snd.fst (List.getD l i.toNat noIns).snd.snd.snd.snd.fst) (Tree.ite (decide ((0 : Int) ≤ i) && decide (i < (↑(List.length l) : Int))) (Tree.ite (decide ((0 : Int) ≤ toV (List.length l) i (IntKind.i64.wrap (List.getD l i.toNat noIns).snd.snd.snd.snd.fst)) && decide (toV (List.length l) i (IntKind.i64.wrap (List.getD l i.toNat noIns).snd.snd.snd.snd.fst) < (↑(List.length m) : Int))) (Tree.ret (Sum.inl (l, IntKind.i64.wrap (i + (1 : Int)), List.set m (toV (List.length l) i (IntKind.i64.wrap (List.getD l i.toNat noIns).snd.snd.snd.snd.fst)).toNat (true, (List.getD m (toV (List.length l) i (IntKind.i64.wrap (List.getD l i.toNat noIns).snd.snd.snd.snd.fst)).toNat (false, ())).snd), s))) Tree.fail) Tree.fail) (Tree.ret (Sum.inl (l, IntKind.i64.wrap (i + (1 : Int)), m, s)))) Tree.fail) (Tree.ret (Sum.inl (l, IntKind.i64.wrap (i + (1 : Int)), m, s)))) Tree.fail) (Tree.ret (Sum.inr (Ex.exit (0 : Nat), { env := [((0 : Nat), AV.p (Part.one (Cell.d insT l))), ((3 : Nat), AV.p (Part.one (Cell.h (0 : Nat))))], hp := [((0 : Nat), Ob.row boolsT m)], nx := (1 : Nat) })))
theorem turn_st1 : ∀ a : A_st1, (turnT 0 orc_st1 (evalCode Tryz.prog (lk L_of) Tryz.f34.ntmps 0 20 LT_st (bodyAt c_st p_st1) false (0 :: p_st1)) (sh_st1.enc (e_st1 a))).run = ((T_st1 a).bind fun s => .ret (turnV sh_st1 e_st1 s)).run := by
  rintro ⟨l, i, m, s⟩
  kernel_rfl
def μ_st1 : A_st1 → Nat := fun ⟨l, i, m, s⟩ => l.length - i.toNat
theorem step_st1 : ∀ a : A_st1, I_st1 a → (∃ a', (T_st1 a).run = some (.inl a') ∧ I_st1 a' ∧ μ_st1 a' < μ_st1 a ∧ (G_st1 a').run = (G_st1 a).run) ∨ (∃ y, (T_st1 a).run = some (.inr y) ∧ (G_st1 a).run = some y ∧ ((∃ id, y.1 = .exit id) ∨ y.1 = .ret)) := by
  rintro ⟨l, i, m, s⟩ ⟨h1, h2, h3, h4, h5, rfl, rfl⟩
  simp only [T_st1]
  have hm := marksL_len l (secs l) i.toNat
  have hsl := secs_len l
  by_cases hi : i < l.length
  · left
    rw [goTd hi, goTa ⟨h1, by omega⟩, wrap64 (n := i + 1) (by omega) (by omega)]
    have hs : secA (secs l) (i.toNat : Nat) = ((secs l).getD i.toNat (false, ())).1 := by unfold secA; rw [ofToNat h1]
    cases c1 : ((secs l).getD i.toNat (false, ())).1 with
    | true =>
      rw [goFN rfl]
      refine ⟨_, rfl, ⟨by omega, by omega, h3, h4, h5, rfl, ?_⟩, by simp only [μ_st1]; omega, rfl⟩
      rw [toNat_up h1, marksL_same (by rw [hs, c1]; simp)]
    | false =>
      rw [goTN rfl, goTa ⟨h1, hi⟩]
      obtain ⟨_, k2, _⟩ := kn_facts _ _ _ _ _ (h4 i.toNat (by omega) (by rw [hs, c1]))
      change B_rnames (l.getD i.toNat noIns).1 (l.getD i.toNat noIns).2.1 (l.getD i.toNat noIns).2.2.1 (l.getD i.toNat noIns).2.2.2.1 (l.getD i.toNat noIns).2.2.2.2.1 = namesB (slotA l i.toNat) at k2
      rw [k2]
      cases c2 : namesB (slotA l i.toNat) with
      | false =>
        rw [goF rfl]
        refine ⟨_, rfl, ⟨by omega, by omega, h3, h4, h5, rfl, ?_⟩, by simp only [μ_st1]; omega, rfl⟩
        rw [toNat_up h1, marksL_same (by rw [c2]; rfl)]
      | true =>
        obtain ⟨t1, t2, t3⟩ := h5 i.toNat (by omega) (by rw [hs, c1]) c2
        have hset := fun u => marksL_set (l := l) (b := secs l) (n := i.toNat) (by rw [hs, c1, c2]; rfl) (by omega) t2 u
        rw [ofToNat h1] at t1 t2 hset
        have hto : toV l.length i (IntKind.i64.wrap (l.getD i.toNat noIns).2.2.2.2.1) = callI l i := by
          unfold toV
          change (bif decide (callI l i < 0) || decide ((l.length : Int) ≤ callI l i) then -1 else callI l i) = _
          rw [decide_eq_false (by omega), decide_eq_false (by omega)]; rfl
        rw [goT rfl, goTa ⟨h1, hi⟩, hto, goTa ⟨by omega, by omega⟩]
        refine ⟨_, rfl, ⟨by omega, by omega, h3, h4, h5, rfl, ?_⟩, by simp only [μ_st1]; omega, rfl⟩
        rw [toNat_up h1]
        exact hset _
  · right
    rw [goFd hi]
    refine ⟨_, rfl, ?_, .inl ⟨0, rfl⟩⟩
    simp only [G_st1, Tree.run]
    rw [show i.toNat = l.length by omega]
theorem lok_st : LOk Tryz.prog (lk L_of) Tryz.f34.ntmps 0 20 LT_st c_st := lok_view (lok_view (noL_ok2 _ _ _ _ _ _ _) (by kernel_rfl) e_st2 (by rintro ⟨⟨l, ⟨⟩, ⟨⟩, i, ⟨⟩⟩, ⟨m, o, ⟨⟩⟩⟩; exact ⟨(l, i, m, o), rfl⟩) T_st2 turn_st2 I_st2 G_st2 (by rintro ⟨l, i, m, o⟩; rfl) μ_st2 step_st2) (by kernel_rfl) e_st1 (by rintro ⟨⟨l, ⟨⟩, ⟨⟩, i, ⟨⟩⟩, ⟨m, s, ⟨⟩⟩⟩; exact ⟨(l, i, m, s), rfl⟩) T_st1 turn_st1 I_st1 G_st1 (by rintro ⟨l, i, m, s⟩; rfl) μ_st1 step_st1
def ea_st : Slots → denAs [.c (.d insT)] := fun l => (l, ())
def eo_st : Slots → denObs [] := fun l => ()
noncomputable def E_st : Slots → Tree (AV × List Ob) := fun l => 
Tree.ite (decide ((0 : Int) ≤ (↑(List.length l) : Int)) && (decide ((↑(List.length l) : Int) ≤ (↑(List.length l) : Int)) && (decide ((↑(List.length l) : Int) ≤ (140737488355328 : Int)) && bytesOk (↑(List.length l) : Int).toNat (1 : Nat)))) (Tree.ite (decC (List.length l ≤ (140737488355328 : Nat))) (Tree.ite (true && decide ((0 : Int) < (↑(List.replicate (↑(List.length l) : Int).toNat (false, ())).length : Int))) (Tree.ite (decC ((0 : Int) ≤ (0 : Int) ∧ (0 : Int) ≤ (↑(List.length l) : Int) ∧ List.length l ≤ (1000000 : Nat) ∧ AllKnown l ∧ Targets l (secs l) ∧ secs l = secs l ∧ (List.replicate (↑(List.length l) : Int).toNat (false, ())).set (0 : Nat) (true, ((List.replicate (↑(List.length l) : Int).toNat (false, ())).getD (0 : Nat) (false, ())).snd) = marksL l (secs l) (0 : Nat))) (Tree.ite (decC ((0 : Int) ≤ (0 : Int) ∧ (0 : Int) ≤ (↑(List.length l) : Int) ∧ List.length l ≤ (1000000 : Nat) ∧ marksL l (secs l) (List.length l) = marksL l (secs l) (List.length l) ∧ [] = ints (fromsTo l (secs l) (0 : Nat)))) (Tree.ret (AV.p (Part.one (Cell.h (0 : Nat))), [Ob.row intsT (ints (froms l (secs l)))])) Tree.fail) Tree.fail) Tree.fail) Tree.fail) Tree.fail
noncomputable def F_st : denAs [.c (.d insT)] → denObs [] → Tree (AV × List Ob) := fun x y => match x, y with
  | (l, ()), () => ckP (0 < l.length ∧ l.length ≤ 1000000 ∧ AllKnown l ∧ Targets l (secs l)) (.ret (AV.c (.h 0), [.row intsT (ints (froms l (secs l)))]))
theorem ev_st : ∀ a, (evalFnL Tryz.prog (lk L_of) 20 LT_st Tryz.f34 c_st [(0, intsT)] (encAs [.c (.d insT)] (ea_st a)) (encOs [] (eo_st a))).run = (E_st a).run := by
  rintro l
  kernel_rfl
theorem fe_st : ∀ a y, (F_st (ea_st a) (eo_st a)).run = some y → (E_st a).run = some y := by
  rintro l y h
  obtain ⟨⟨h1, h2, h3, h4⟩, h⟩ := ckP_run h
  rw [← h]
  change 0 < l.length at h1
  change l.length ≤ 1000000 at h2
  dsimp only [E_st]
  refine (goT ?_).trans ((goT (decP (Nat.le_trans h2 (by decide)))).trans ((goT ?_).trans ((goT (decP ⟨Int.le_refl 0, ?_, h2, h3, h4, rfl, ?_⟩)).trans ((goT (decP ⟨Int.le_refl 0, ?_, h2, rfl, rfl⟩)).trans rfl))))
  · simp only [bytesOk_dec, and_dec, decide_eq_true_eq]; omega
  · rw [Bool.true_and, decide_eq_true_eq, List.length_replicate]; omega
  · omega
  · exact marksL_zero (secs l) h1
  · omega
theorem ok_st : SummOk Kn Tryz.prog 34 (sumT [.dp insT] false [.c (.d insT)] [] F_st) := sumT_view tok_of Tryz.checked.mixed Tryz.func34 (by kernel_rfl) (by rfl) 20 [(0, intsT)] ea_st eo_st
  (by rintro ⟨l, ⟨⟩⟩ ⟨⟩; exact ⟨l, rfl, rfl⟩) LT_st 0 (by rintro ⟨⟩; rfl) lok_st E_st ev_st fe_st
noncomputable def L_st : List (Nat × Summ) := (34, (sumT [.dp insT] false [.c (.d insT)] [] F_st)) :: L_of
theorem tok_st : TOk Kn Tryz.prog (lk L_st) := lk_cons ok_st tok_of
def endO (l : Slots) (b : Bools) (ps : Parts) : Option Nat := scan (fun j => endBad l b (partOf ps j)) ps.length 0
def endIx (l : Slots) (b : Bools) (ps : Parts) : Nat := (endO l b ps).getD 0
noncomputable def rs1G (l : Slots) (b : Bools) : Tree (Ex × St) := .ite (badIs l b)
  (.ret (.ret, ⟨[(0, .p (.one (.d insT l))), (2, AV.c (.v (.slice none 0 0))), (3, AV.c (.v (.int .i64 (badAt l b)))), (4, AV.c (.v (.int .i64 (wrongI l (badAt l b) b)))), (5, .p (.one (.h 0)))], [(0, .row boolsT b)], 1⟩)) (.ret (.exit 0, ⟨[(0, .p (.one (.d insT l))), (5, .p (.one (.h 0)))], [(0, .row boolsT b)], 1⟩))
noncomputable def rs2G (l : Slots) (b : Bools) : Tree (Ex × St) := .ite (endIs l b (subsL l b))
  (.ret (.ret, ⟨[(2, AV.c (.v (.slice none 0 0))), (3, AV.c (.v (.int .i64 (endAt l b (subsL l b))))), (4, AV.c (.v (.int .i64 (16)))), (9, .p (.one (.h 0)))], [(0, .row partsT ((subsL l b).take (endIx l b (subsL l b))))], 1⟩)) (.ret (.exit 2, ⟨[(9, .p (.one (.h 0)))], [(0, .row partsT (subsL l b))], 1⟩))
noncomputable abbrev c_rsbs : Code := Tryz.f13.body.getD .skip
def p_rsbs1 : List Nat := [0, 1, 0, 1, 1, 1]
def sh_rsbs1 : Shape := ⟨[(0, .c (.d insT)), (5, .c (.h 0)), (6, .c (.i .i64))], [.row boolsT]⟩
@[reducible] def A_rsbs1 : Type := Slots × Int × Bools
def e_rsbs1 : A_rsbs1 → sh_rsbs1.den := fun ⟨l, i, b⟩ => ((l, (), i, ()), (b, ()))
def v_rsbs1 : sh_rsbs1.den → A_rsbs1 := fun d => match d with
  | ((l, (), i, ()), (b, ())) => (l, i, b)
def I_rsbs1 : A_rsbs1 → Prop := fun ⟨l, i, b⟩ => 0 ≤ i ∧ lenOk l b ∧ ∀ j : Nat, (j : Int) < i → slotBad l b j = false
noncomputable def G_rsbs1 : A_rsbs1 → Tree (Ex × St) := fun ⟨l, i, b⟩ => rs1G l b
noncomputable def orc_rsbs1 : Orc := ⟨sh_rsbs1, [], [0, 2, 3, 4, 5], [], fun d => ckP (I_rsbs1 (v_rsbs1 d)) (G_rsbs1 (v_rsbs1 d))⟩
def p_rsbs2 : List Nat := [0, 1, 0, 1, 1, 1, 1, 1, 1, 1]
def sh_rsbs2 : Shape := ⟨[(0, .c (.d insT)), (5, .c (.h 0)), (8, .c (.h 1)), (9, .c (.h 2)), (10, .c (.i .i64))], [.row boolsT, .row intsT, .row partsT]⟩
@[reducible] def A_rsbs2 : Type := Slots × Int × Bools × Ints × Parts
def e_rsbs2 : A_rsbs2 → sh_rsbs2.den := fun ⟨l, i, b, s, o⟩ => ((l, (), (), (), i, ()), (b, s, o, ()))
def v_rsbs2 : sh_rsbs2.den → A_rsbs2 := fun d => match d with
  | ((l, (), (), (), i, ()), (b, s, o, ())) => (l, i, b, s, o)
def I_rsbs2 : A_rsbs2 → Prop := fun ⟨l, i, b, s, o⟩ => 0 ≤ i ∧ i ≤ (froms l (secs l)).length ∧ l.length ≤ 1000000 ∧ AllKnown l ∧ Targets l (secs l) ∧ b = secs l ∧ s = ints (froms l (secs l)) ∧ o = (subsL l (secs l)).take i.toNat ∧ ∀ j : Nat, (j : Int) < i → endBad l (secs l) (partOf (subsL l (secs l)) j) = false
noncomputable def G_rsbs2 : A_rsbs2 → Tree (Ex × St) := fun ⟨l, i, b, s, o⟩ => rs2G l (secs l)
noncomputable def orc_rsbs2 : Orc := ⟨sh_rsbs2, [(9, partsT)], [2, 3, 4, 9], [], fun d => ckP (I_rsbs2 (v_rsbs2 d)) (G_rsbs2 (v_rsbs2 d))⟩
noncomputable def LT_rsbs : LT := oneL p_rsbs1 orc_rsbs1 (oneL p_rsbs2 orc_rsbs2 (noL))
noncomputable def T_rsbs2 : Slots × Int × Bools × Ints × Parts → Tree (A_rsbs2 ⊕ (Ex × St)) := fun ⟨l, i, b, s, o⟩ => 
Tree.ite (decide (i < (↑(List.length s) : Int))) (Tree.ite (decide (IntKind.i64.wrap (i + (1 : Int)) < (↑(List.length s) : Int))) (Tree.ite (decide ((0 : Int) ≤ IntKind.i64.wrap (i + (1 : Int))) && decide (IntKind.i64.wrap (i + (1 : Int)) < (↑(List.length s) : Int))) (Tree.ite (decide ((0 : Int) ≤ IntKind.i64.wrap ((List.getD s (IntKind.i64.wrap (i + (1 : Int))).toNat ((0 : Int), ())).fst - (1 : Int))) && decide (IntKind.i64.wrap ((List.getD s (IntKind.i64.wrap (i + (1 : Int))).toNat ((0 : Int), ())).fst - (1 : Int)) < (↑(List.length b) : Int))) (Tree.ite (List.getD b (IntKind.i64.wrap ((List.getD s (IntKind.i64.wrap (i + (1 : Int))).toNat ((0 : Int), ())).fst - (1 : Int))).toNat (false, ())).fst (Tree.ite (decide ((0 : Int) ≤ IntKind.i64.wrap (IntKind.i64.wrap ((List.getD s (IntKind.i64.wrap (i + (1 : Int))).toNat ((0 : Int), ())).fst - (1 : Int)) - (1 : Int))) && decide (IntKind.i64.wrap (IntKind.i64.wrap ((List.getD s (IntKind.i64.wrap (i + (1 : Int))).toNat ((0 : Int), ())).fst - (1 : Int)) - (1 : Int)) < (↑(List.length l) : Int))) (Tree.ite ((↑((List.getD l (IntKind.i64.wrap (IntKind.i64.wrap ((List.getD s (IntKind.i64.wrap (i + (1 : Int))).toNat ((0 : Int), ())).fst - (1 : Int)) - (1 : Int))).toNat noIns).fst % BitVec.ofInt (8 : Nat) (8 : Int)).toNat : Int) == (5 : Int)) (Tree.ite (!(↑((List.getD l (IntKind.i64.wrap (IntKind.i64.wrap ((List.getD s (IntKind.i64.wrap (i + (1 : Int))).toNat ((0 : Int), ())).fst - (1 : Int)) - (1 : Int))).toNat noIns).fst / BitVec.ofInt (8 : Nat) (16 : Int)).toNat : Int) == (9 : Int)) (Tree.ite (decide ((0 : Int) ≤ IntKind.i64.wrap (IntKind.i64.wrap ((List.getD s (IntKind.i64.wrap (i + (1 : Int))).toNat ((0 : Int), ())).fst - (1 : Int)) - (1 : Int))) && decide (IntKind.i64.wrap (IntKind.i64.wrap ((List.getD s (IntKind.i64.wrap (i + (1 : Int))).toNat ((0 : Int), ())).fst - (1 : Int)) - (1 : Int)) < (↑(List.length l) : Int))) (Tree.ite ((↑((List.getD l (IntKind.i64.wrap (IntKind.i64.wrap ((List.getD s (IntKind.i64.wrap (i + (1 : Int))).toNat ((0 : Int), ())).fst - (1 : Int)) - (1 : Int))).toNat noIns).fst % BitVec.ofInt (8 : Nat) (8 : Int)).toNat : Int) == (5 : Int)) (Tree.ite (!(↑((List.getD l (IntKind.i64.wrap (IntKind.i64.wrap ((List.getD s (IntKind.i64.wrap (i + (1 : Int))).toNat ((0 : Int), ())).fst - (1 : Int)) - (1 : Int))).toNat noIns).fst / BitVec.ofInt (8 : Nat) (16 : Int)).toNat : Int) == (0 : Int)) (Tree.ret (Sum.inr (Ex.ret, { env := [((2 : Nat), AV.p (Part.one (Cell.v (Value.slice none (0 : Nat) (0 : Nat))))), ((3 : Nat), AV.p (Part.one (Cell.v (Value.int IntKind.i64 (IntKind.i64.wrap (IntKind.i64.wrap ((List.getD s (IntKind.i64.wrap (i + (1 : Int))).toNat ((0 : Int), ())).fst - (1 : Int)) - (1 : Int))))))), ((4 : Nat), AV.p (Part.one (Cell.v (Value.int IntKind.i64 (16 : Int))))), ((9 : Nat), AV.p (Part.one (Cell.h (0 : Nat))))], hp := [((0 : Nat), Ob.row partsT o)], nx := (1 : Nat) }))) (Tree.ite (decide ((0 : Int) ≤ i) && decide (i < (↑(List.length s) : Int))) (Tree.ite (bytesOk (List.length o + (1 : Nat)) (16 : Nat) && (List.length o + (1 : Nat)).ble (140737488355328 : Nat)) (Tree.ret (Sum.inl (l, IntKind.i64.wrap (i + (1 : Int)), b, s, o ++ [((List.getD s i.toNat ((0 : Int), ())).fst, (List.getD s (IntKind.i64.wrap (i + (1 : Int))).toNat ((0 : Int), ())).fst, ())]))) Tree.fail) Tree.fail)) (Tree.ret (Sum.inr (Ex.ret, { env := [((2 : Nat), AV.p (Part.one (Cell.v (Value.slice none (0 : Nat) (0 : Nat))))), ((3 : Nat), AV.p (Part.one (Cell.v (Value.int IntKind.i64 (IntKind.i64.wrap (IntKind.i64.wrap ((List.getD s (IntKind.i64.wrap (i + (1 : Int))).toNat ((0 : Int), ())).fst - (1 : Int)) - (1 : Int))))))), ((4 : Nat), AV.p (Part.one (Cell.v (Value.int IntKind.i64 (16 : Int))))), ((9 : Nat), AV.p (Part.one (Cell.h (0 : Nat))))], hp := [((0 : Nat), Ob.row partsT o)], nx := (1 : Nat) })))) Tree.fail) (Tree.ite (decide ((0 : Int) ≤ i) && decide (i < (↑(List.length s) : Int))) (Tree.ite (bytesOk (List.length o + (1 : Nat)) (16 : Nat) && (List.length o + (1 : Nat)).ble (140737488355328 : Nat)) (Tree.ret (Sum.inl (l, IntKind.i64.wrap (i + (1 : Int)), b, s, o ++ [((List.getD s i.toNat ((0 : Int), ())).fst, (List.getD s (IntKind.i64.wrap (i + (1 : Int))).toNat ((0 : Int), ())).fst, ())]))) Tree.fail) Tree.fail)) (Tree.ite (decide ((0 : Int) ≤ IntKind.i64.wrap (IntKind.i64.wrap ((List.getD s (IntKind.i64.wrap (i + (1 : Int))).toNat ((0 : Int), ())).fst - (1 : Int)) - (1 : Int))) && decide (IntKind.i64.wrap (IntKind.i64.wrap ((List.getD s (IntKind.i64.wrap (i + (1 : Int))).toNat ((0 : Int), ())).fst - (1 : Int)) - (1 : Int)) < (↑(List.length l) : Int))) (Tree.ite ((↑((List.getD l (IntKind.i64.wrap (IntKind.i64.wrap ((List.getD s (IntKind.i64.wrap (i + (1 : Int))).toNat ((0 : Int), ())).fst - (1 : Int)) - (1 : Int))).toNat noIns).fst % BitVec.ofInt (8 : Nat) (8 : Int)).toNat : Int) == (5 : Int)) (Tree.ite (!(↑((List.getD l (IntKind.i64.wrap (IntKind.i64.wrap ((List.getD s (IntKind.i64.wrap (i + (1 : Int))).toNat ((0 : Int), ())).fst - (1 : Int)) - (1 : Int))).toNat noIns).fst / BitVec.ofInt (8 : Nat) (16 : Int)).toNat : Int) == (0 : Int)) (Tree.ret (Sum.inr (Ex.ret, { env := [((2 : Nat), AV.p (Part.one (Cell.v (Value.slice none (0 : Nat) (0 : Nat))))), ((3 : Nat), AV.p (Part.one (Cell.v (Value.int IntKind.i64 (IntKind.i64.wrap (IntKind.i64.wrap ((List.getD s (IntKind.i64.wrap (i + (1 : Int))).toNat ((0 : Int), ())).fst - (1 : Int)) - (1 : Int))))))), ((4 : Nat), AV.p (Part.one (Cell.v (Value.int IntKind.i64 (16 : Int))))), ((9 : Nat), AV.p (Part.one (Cell.h (0 : Nat))))], hp := [((0 : Nat), Ob.row partsT o)], nx := (1 : Nat) }))) (Tree.ite (decide ((0 : Int) ≤ i) && decide (i < (↑(List.length s) : Int))) (Tree.ite (bytesOk (List.length o + (1 : Nat)) (16 : Nat) && (List.length o + (1 : Nat)).ble (140737488355328 : Nat)) (Tree.ret (Sum.inl (l, IntKind.i64.wrap (i + (1 : Int)), b, s, o ++ [((List.getD s i.toNat ((0 : Int), ())).fst, (List.getD s (IntKind.i64.wrap (i + (1 : Int))).toNat ((0 : Int), ())).fst, ())]))) Tree.fail) Tree.fail)) (Tree.ret (Sum.inr (Ex.ret, { env := [((2 : Nat), AV.p (Part.one (Cell.v (Value.slice none (0 : Nat) (0 : Nat))))), ((3 : Nat), AV.p (Part.one (Cell.v (Value.int IntKind.i64 (IntKind.i64.wrap (IntKind.i64.wrap ((List.getD s (IntKind.i64.wrap (i + (1 : Int))).toNat ((0 : Int), ())).fst - (1 : Int)) - (1 : Int))))))), ((4 : Nat), AV.p (Part.one (Cell.v (Value.int IntKind.i64 (16 : Int))))), ((9 : Nat), AV.p (Part.one (Cell.h (0 : Nat))))], hp := [((0 : Nat), Ob.row partsT o)], nx := (1 : Nat) })))) Tree.fail)) Tree.fail) (Tree.ite (decide ((0 : Int) ≤ IntKind.i64.wrap ((List.getD s (IntKind.i64.wrap (i + (1 : Int))).toNat ((0 : Int), ())).fst - (1 : Int))) && decide (IntKind.i64.wrap ((List.getD s (IntKind.i64.wrap (i + (1 : Int))).toNat ((0 : Int), ())).fst - (1 : Int)) < (↑(List.length l) : Int))) (Tree.ite ((↑((List.getD l (IntKind.i64.wrap ((List.getD s (IntKind.i64.wrap (i + (1 : Int))).toNat ((0 : Int), ())).fst - (1 : Int))).toNat noIns).fst % BitVec.ofInt (8 : Nat) (8 : Int)).toNat : Int) == (5 : Int)) (Tree.ite (!(↑((List.getD l (IntKind.i64.wrap ((List.getD s (IntKind.i64.wrap (i + (1 : Int))).toNat ((0 : Int), ())).fst - (1 : Int))).toNat noIns).fst / BitVec.ofInt (8 : Nat) (16 : Int)).toNat : Int) == (9 : Int)) (Tree.ite (decide ((0 : Int) ≤ IntKind.i64.wrap ((List.getD s (IntKind.i64.wrap (i + (1 : Int))).toNat ((0 : Int), ())).fst - (1 : Int))) && decide (IntKind.i64.wrap ((List.getD s (IntKind.i64.wrap (i + (1 : Int))).toNat ((0 : Int), ())).fst - (1 : Int)) < (↑(List.length l) : Int))) (Tree.ite ((↑((List.getD l (IntKind.i64.wrap ((List.getD s (IntKind.i64.wrap (i + (1 : Int))).toNat ((0 : Int), ())).fst - (1 : Int))).toNat noIns).fst % BitVec.ofInt (8 : Nat) (8 : Int)).toNat : Int) == (5 : Int)) (Tree.ite (!(↑((List.getD l (IntKind.i64.wrap ((List.getD s (IntKind.i64.wrap (i + (1 : Int))).toNat ((0 : Int), ())).fst - (1 : Int))).toNat noIns).fst / BitVec.ofInt (8 : Nat) (16 : Int)).toNat : Int) == (0 : Int)) (Tree.ret (Sum.inr (Ex.ret, { env := [((2 : Nat), AV.p (Part.one (Cell.v (Value.slice none (0 : Nat) (0 : Nat))))), ((3 : Nat), AV.p (Part.one (Cell.v (Value.int IntKind.i64 (IntKind.i64.wrap ((List.getD s (IntKind.i64.wrap (i + (1 : Int))).toNat ((0 : Int), ())).fst - (1 : Int))))))), ((4 : Nat), AV.p (Part.one (Cell.v (Value.int IntKind.i64 (16 : Int))))), ((9 : Nat), AV.p (Part.one (Cell.h (0 : Nat))))], hp := [((0 : Nat), Ob.row partsT o)], nx := (1 : Nat) }))) (Tree.ite (decide ((0 : Int) ≤ i) && decide (i < (↑(List.length s) : Int))) (Tree.ite (bytesOk (List.length o + (1 : Nat)) (16 : Nat) && (List.length o + (1 : Nat)).ble (140737488355328 : Nat)) (Tree.ret (Sum.inl (l, IntKind.i64.wrap (i + (1 : Int)), b, s, o ++ [((List.getD s i.toNat ((0 : Int), ())).fst, (List.getD s (IntKind.i64.wrap (i + (1 : Int))).toNat ((0 : Int), ())).fst, ())]))) Tree.fail) Tree.fail)) (Tree.ret (Sum.inr (Ex.ret, { env := [((2 : Nat), AV.p (Part.one (Cell.v (Value.slice none (0 : Nat) (0 : Nat))))), ((3 : Nat), AV.p (Part.one (Cell.v (Value.int IntKind.i64 (IntKind.i64.wrap ((List.getD s (IntKind.i64.wrap (i + (1 : Int))).toNat ((0 : Int), ())).fst - (1 : Int))))))), ((4 : Nat), AV.p (Part.one (Cell.v (Value.int IntKind.i64 (16 : Int))))), ((9 : Nat), AV.p (Part.one (Cell.h (0 : Nat))))], hp := [((0 : Nat), Ob.row partsT o)], nx := (1 : Nat) })))) Tree.fail) (Tree.ite (decide ((0 : Int) ≤ i) && decide (i < (↑(List.length s) : Int))) (Tree.ite (bytesOk (List.length o + (1 : Nat)) (16 : Nat) && (List.length o + (1 : Nat)).ble (140737488355328 : Nat)) (Tree.ret (Sum.inl (l, IntKind.i64.wrap (i + (1 : Int)), b, s, o ++ [((List.getD s i.toNat ((0 : Int), ())).fst, (List.getD s (IntKind.i64.wrap (i + (1 : Int))).toNat ((0 : Int), ())).fst, ())]))) Tree.fail) Tree.fail)) (Tree.ite (decide ((0 : Int) ≤ IntKind.i64.wrap ((List.getD s (IntKind.i64.wrap (i + (1 : Int))).toNat ((0 : Int), ())).fst - (1 : Int))) && decide (IntKind.i64.wrap ((List.getD s (IntKind.i64.wrap (i + (1 : Int))).toNat ((0 : Int), ())).fst - (1 : Int)) < (↑(List.length l) : Int))) (Tree.ite ((↑((List.getD l (IntKind.i64.wrap ((List.getD s (IntKind.i64.wrap (i + (1 : Int))).toNat ((0 : Int), ())).fst - (1 : Int))).toNat noIns).fst % BitVec.ofInt (8 : Nat) (8 : Int)).toNat : Int) == (5 : Int)) (Tree.ite (!(↑((List.getD l (IntKind.i64.wrap ((List.getD s (IntKind.i64.wrap (i + (1 : Int))).toNat ((0 : Int), ())).fst - (1 : Int))).toNat noIns).fst / BitVec.ofInt (8 : Nat) (16 : Int)).toNat : Int) == (0 : Int)) (Tree.ret (Sum.inr (Ex.ret, { env := [((2 : Nat), AV.p (Part.one (Cell.v (Value.slice none (0 : Nat) (0 : Nat))))), ((3 : Nat), AV.p (Part.one (Cell.v (Value.int IntKind.i64 (IntKind.i64.wrap ((List.getD s (IntKind.i64.wrap (i + (1 : Int))).toNat ((0 : Int), ())).fst - (1 : Int))))))), ((4 : Nat), AV.p (Part.one (Cell.v (Value.int IntKind.i64 (16 : Int))))), ((9 : Nat), AV.p (Part.one (Cell.h (0 : Nat))))], hp := [((0 : Nat), Ob.row partsT o)], nx := (1 : Nat) }))) (Tree.ite (decide ((0 : Int) ≤ i) && decide (i < (↑(List.length s) : Int))) (Tree.ite (bytesOk (List.length o + (1 : Nat)) (16 : Nat) && (List.length o + (1 : Nat)).ble (140737488355328 : Nat)) (Tree.ret (Sum.inl (l, IntKind.i64.wrap (i + (1 : Int)), b, s, o ++ [((List.getD s i.toNat ((0 : Int), ())).fst, (List.getD s (IntKind.i64.wrap (i + (1 : Int))).toNat ((0 : Int), ())).fst, ())]))) Tree.fail) Tree.fail)) (Tree.ret (Sum.inr (Ex.ret, { env := [((2 : Nat), AV.p (Part.one (Cell.v (Value.slice none (0 : Nat) (0 : Nat))))), ((3 : Nat), AV.p (Part.one (Cell.v (Value.int IntKind.i64 (IntKind.i64.wrap ((List.getD s (IntKind.i64.wrap (i + (1 : Int))).toNat ((0 : Int), ())).fst - (1 : Int))))))), ((4 : Nat), AV.p (Part.one (Cell.v (Value.int IntKind.i64 (16 : Int))))), ((9 : Nat), AV.p (Part.one (Cell.h (0 : Nat))))], hp := [((0 : Nat), Ob.row partsT o)], nx := (1 : Nat) })))) Tree.fail)) Tree.fail)) Tree.fail) Tree.fail) (Tree.ite (decide ((0 : Int) ≤ IntKind.i64.wrap ((↑(List.length l) : Int) - (1 : Int))) && decide (IntKind.i64.wrap ((↑(List.length l) : Int) - (1 : Int)) < (↑(List.length b) : Int))) (Tree.ite (List.getD b (IntKind.i64.wrap ((↑(List.length l) : Int) - (1 : Int))).toNat (false, ())).fst (Tree.ite (decide ((0 : Int) ≤ IntKind.i64.wrap (IntKind.i64.wrap ((↑(List.length l) : Int) - (1 : Int)) - (1 : Int))) && decide (IntKind.i64.wrap (IntKind.i64.wrap ((↑(List.length l) : Int) - (1 : Int)) - (1 : Int)) < (↑(List.length l) : Int))) (Tree.ite ((↑((List.getD l (IntKind.i64.wrap (IntKind.i64.wrap ((↑(List.length l) : Int) - (1 : Int)) - (1 : Int))).toNat noIns).fst % BitVec.ofInt (8 : Nat) (8 : Int)).toNat : Int) == (5 : Int)) (Tree.ite (!(↑((List.getD l (IntKind.i64.wrap (IntKind.i64.wrap ((↑(List.length l) : Int) - (1 : Int)) - (1 : Int))).toNat noIns).fst / BitVec.ofInt (8 : Nat) (16 : Int)).toNat : Int) == (9 : Int)) (Tree.ite (decide ((0 : Int) ≤ IntKind.i64.wrap (IntKind.i64.wrap ((↑(List.length l) : Int) - (1 : Int)) - (1 : Int))) && decide (IntKind.i64.wrap (IntKind.i64.wrap ((↑(List.length l) : Int) - (1 : Int)) - (1 : Int)) < (↑(List.length l) : Int))) (Tree.ite ((↑((List.getD l (IntKind.i64.wrap (IntKind.i64.wrap ((↑(List.length l) : Int) - (1 : Int)) - (1 : Int))).toNat noIns).fst % BitVec.ofInt (8 : Nat) (8 : Int)).toNat : Int) == (5 : Int)) (Tree.ite (!(↑((List.getD l (IntKind.i64.wrap (IntKind.i64.wrap ((↑(List.length l) : Int) - (1 : Int)) - (1 : Int))).toNat noIns).fst / BitVec.ofInt (8 : Nat) (16 : Int)).toNat : Int) == (0 : Int)) (Tree.ret (Sum.inr (Ex.ret, { env := [((2 : Nat), AV.p (Part.one (Cell.v (Value.slice none (0 : Nat) (0 : Nat))))), ((3 : Nat), AV.p (Part.one (Cell.v (Value.int IntKind.i64 (IntKind.i64.wrap (IntKind.i64.wrap ((↑(List.length l) : Int) - (1 : Int)) - (1 : Int))))))), ((4 : Nat), AV.p (Part.one (Cell.v (Value.int IntKind.i64 (16 : Int))))), ((9 : Nat), AV.p (Part.one (Cell.h (0 : Nat))))], hp := [((0 : Nat), Ob.row partsT o)], nx := (1 : Nat) }))) (Tree.ite (decide ((0 : Int) ≤ i) && decide (i < (↑(List.length s) : Int))) (Tree.ite (bytesOk (List.length o + (1 : Nat)) (16 : Nat) && (List.length o + (1 : Nat)).ble (140737488355328 : Nat)) (Tree.ret (Sum.inl (l, IntKind.i64.wrap (i + (1 : Int)), b, s, o ++ [((List.getD s i.toNat ((0 : Int), ())).fst, (↑(List.length l) : Int), ())]))) Tree.fail) Tree.fail)) (Tree.ret (Sum.inr (Ex.ret, { env := [((2 : Nat), AV.p (Part.one (Cell.v (Value.slice none (0 : Nat) (0 : Nat))))), ((3 : Nat), AV.p (Part.one (Cell.v (Value.int IntKind.i64 (IntKind.i64.wrap (IntKind.i64.wrap ((↑(List.length l) : Int) - (1 : Int)) - (1 : Int))))))), ((4 : Nat), AV.p (Part.one (Cell.v (Value.int IntKind.i64 (16 : Int))))), ((9 : Nat), AV.p (Part.one (Cell.h (0 : Nat))))], hp := [((0 : Nat), Ob.row partsT o)], nx := (1 : Nat) })))) Tree.fail) (Tree.ite (decide ((0 : Int) ≤ i) && decide (i < (↑(List.length s) : Int))) (Tree.ite (bytesOk (List.length o + (1 : Nat)) (16 : Nat) && (List.length o + (1 : Nat)).ble (140737488355328 : Nat)) (Tree.ret (Sum.inl (l, IntKind.i64.wrap (i + (1 : Int)), b, s, o ++ [((List.getD s i.toNat ((0 : Int), ())).fst, (↑(List.length l) : Int), ())]))) Tree.fail) Tree.fail)) (Tree.ite (decide ((0 : Int) ≤ IntKind.i64.wrap (IntKind.i64.wrap ((↑(List.length l) : Int) - (1 : Int)) - (1 : Int))) && decide (IntKind.i64.wrap (IntKind.i64.wrap ((↑(List.length l) : Int) - (1 : Int)) - (1 : Int)) < (↑(List.length l) : Int))) (Tree.ite ((↑((List.getD l (IntKind.i64.wrap (IntKind.i64.wrap ((↑(List.length l) : Int) - (1 : Int)) - (1 : Int))).toNat noIns).fst % BitVec.ofInt (8 : Nat) (8 : Int)).toNat : Int) == (5 : Int)) (Tree.ite (!(↑((List.getD l (IntKind.i64.wrap (IntKind.i64.wrap ((↑(List.length l) : Int) - (1 : Int)) - (1 : Int))).toNat noIns).fst / BitVec.ofInt (8 : Nat) (16 : Int)).toNat : Int) == (0 : Int)) (Tree.ret (Sum.inr (Ex.ret, { env := [((2 : Nat), AV.p (Part.one (Cell.v (Value.slice none (0 : Nat) (0 : Nat))))), ((3 : Nat), AV.p (Part.one (Cell.v (Value.int IntKind.i64 (IntKind.i64.wrap (IntKind.i64.wrap ((↑(List.length l) : Int) - (1 : Int)) - (1 : Int))))))), ((4 : Nat), AV.p (Part.one (Cell.v (Value.int IntKind.i64 (16 : Int))))), ((9 : Nat), AV.p (Part.one (Cell.h (0 : Nat))))], hp := [((0 : Nat), Ob.row partsT o)], nx := (1 : Nat) }))) (Tree.ite (decide ((0 : Int) ≤ i) && decide (i < (↑(List.length s) : Int))) (Tree.ite (bytesOk (List.length o + (1 : Nat)) (16 : Nat) && (List.length o + (1 : Nat)).ble (140737488355328 : Nat)) (Tree.ret (Sum.inl (l, IntKind.i64.wrap (i + (1 : Int)), b, s, o ++ [((List.getD s i.toNat ((0 : Int), ())).fst, (↑(List.length l) : Int), ())]))) Tree.fail) Tree.fail)) (Tree.ret (Sum.inr (Ex.ret, { env := [((2 : Nat), AV.p (Part.one (Cell.v (Value.slice none (0 : Nat) (0 : Nat))))), ((3 : Nat), AV.p (Part.one (Cell.v (Value.int IntKind.i64 (IntKind.i64.wrap (IntKind.i64.wrap ((↑(List.length l) : Int) - (1 : Int)) - (1 : Int))))))), ((4 : Nat), AV.p (Part.one (Cell.v (Value.int IntKind.i64 (16 : Int))))), ((9 : Nat), AV.p (Part.one (Cell.h (0 : Nat))))], hp := [((0 : Nat), Ob.row partsT o)], nx := (1 : Nat) })))) Tree.fail)) Tree.fail) (Tree.ite (decide ((0 : Int) ≤ IntKind.i64.wrap ((↑(List.length l) : Int) - (1 : Int))) && decide (IntKind.i64.wrap ((↑(List.length l) : Int) - (1 : Int)) < (↑(List.length l) : Int))) (Tree.ite ((↑((List.getD l (IntKind.i64.wrap ((↑(List.length l) : Int) - (1 : Int))).toNat noIns).fst % BitVec.ofInt (8 : Nat) (8 : Int)).toNat : Int) == (5 : Int)) (Tree.ite (!(↑((List.getD l (IntKind.i64.wrap ((↑(List.length l) : Int) - (1 : Int))).toNat noIns).fst / BitVec.ofInt (8 : Nat) (16 : Int)).toNat : Int) == (9 : Int)) (Tree.ite (decide ((0 : Int) ≤ IntKind.i64.wrap ((↑(List.length l) : Int) - (1 : Int))) && decide (IntKind.i64.wrap ((↑(List.length l) : Int) - (1 : Int)) < (↑(List.length l) : Int))) (Tree.ite ((↑((List.getD l (IntKind.i64.wrap ((↑(List.length l) : Int) - (1 : Int))).toNat noIns).fst % BitVec.ofInt (8 : Nat) (8 : Int)).toNat : Int) == (5 : Int)) (Tree.ite (!(↑((List.getD l (IntKind.i64.wrap ((↑(List.length l) : Int) - (1 : Int))).toNat noIns).fst / BitVec.ofInt (8 : Nat) (16 : Int)).toNat : Int) == (0 : Int)) (Tree.ret (Sum.inr (Ex.ret, { env := [((2 : Nat), AV.p (Part.one (Cell.v (Value.slice none (0 : Nat) (0 : Nat))))), ((3 : Nat), AV.p (Part.one (Cell.v (Value.int IntKind.i64 (IntKind.i64.wrap ((↑(List.length l) : Int) - (1 : Int))))))), ((4 : Nat), AV.p (Part.one (Cell.v (Value.int IntKind.i64 (16 : Int))))), ((9 : Nat), AV.p (Part.one (Cell.h (0 : Nat))))], hp := [((0 : Nat), Ob.row partsT o)], nx := (1 : Nat) }))) (Tree.ite (decide ((0 : Int) ≤ i) && decide (i < (↑(List.length s) : Int))) (Tree.ite (bytesOk (List.length o + (1 : Nat)) (16 : Nat) && (List.length o + (1 : Nat)).ble (140737488355328 : Nat)) (Tree.ret (Sum.inl (l, IntKind.i64.wrap (i + (1 : Int)), b, s, o ++ [((List.getD s i.toNat ((0 : Int), ())).fst, (↑(List.length l) : Int), ())]))) Tree.fail) Tree.fail)) (Tree.ret (Sum.inr (Ex.ret, { env := [((2 : Nat), AV.p (Part.one (Cell.v (Value.slice none (0 : Nat) (0 : Nat))))), ((3 : Nat), AV.p (Part.one (Cell.v (Value.int IntKind.i64 (IntKind.i64.wrap ((↑(List.length l) : Int) - (1 : Int))))))), ((4 : Nat), AV.p (Part.one (Cell.v (Value.int IntKind.i64 (16 : Int))))), ((9 : Nat), AV.p (Part.one (Cell.h (0 : Nat))))], hp := [((0 : Nat), Ob.row partsT o)], nx := (1 : Nat) })))) Tree.fail) (Tree.ite (decide ((0 : Int) ≤ i) && decide (i < (↑(List.length s) : Int))) (Tree.ite (bytesOk (List.length o + (1 : Nat)) (16 : Nat) && (List.length o + (1 : Nat)).ble (140737488355328 : Nat)) (Tree.ret (Sum.inl (l, IntKind.i64.wrap (i + (1 : Int)), b, s, o ++ [((List.getD s i.toNat ((0 : Int), ())).fst, (↑(List.length l) : Int), ())]))) Tree.fail) Tree.fail)) (Tree.ite (decide ((0 : Int) ≤ IntKind.i64.wrap ((↑(List.length l) : Int) - (1 : Int))) && decide (IntKind.i64.wrap ((↑(List.length l) : Int) - (1 : Int)) < (↑(List.length l) : Int))) (Tree.ite ((↑((List.getD l (IntKind.i64.wrap ((↑(List.length l) : Int) - (1 : Int))).toNat noIns).fst % BitVec.ofInt (8 : Nat) (8 : Int)).toNat : Int) == (5 : Int)) (Tree.ite (!(↑((List.getD l (IntKind.i64.wrap ((↑(List.length l) : Int) - (1 : Int))).toNat noIns).fst / BitVec.ofInt (8 : Nat) (16 : Int)).toNat : Int) == (0 : Int)) (Tree.ret (Sum.inr (Ex.ret, { env := [((2 : Nat), AV.p (Part.one (Cell.v (Value.slice none (0 : Nat) (0 : Nat))))), ((3 : Nat), AV.p (Part.one (Cell.v (Value.int IntKind.i64 (IntKind.i64.wrap ((↑(List.length l) : Int) - (1 : Int))))))), ((4 : Nat), AV.p (Part.one (Cell.v (Value.int IntKind.i64 (16 : Int))))), ((9 : Nat), AV.p (Part.one (Cell.h (0 : Nat))))], hp := [((0 : Nat), Ob.row partsT o)], nx := (1 : Nat) }))) (Tree.ite (decide ((0 : Int) ≤ i) && decide (i < (↑(List.length s) : Int))) (Tree.ite (bytesOk (List.length o + (1 : Nat)) (16 : Nat) && (List.length o + (1 : Nat)).ble (140737488355328 : Nat)) (Tree.ret (Sum.inl (l, IntKind.i64.wrap (i + (1 : Int)), b, s, o ++ [((List.getD s i.toNat ((0 : Int), ())).fst, (↑(List.length l) : Int), ())]))) Tree.fail) Tree.fail)) (Tree.ret (Sum.inr (Ex.ret, { env := [((2 : Nat), AV.p (Part.one (Cell.v (Value.slice none (0 : Nat) (0 : Nat))))), ((3 : Nat), AV.p (Part.one (Cell.v (Value.int IntKind.i64 (IntKind.i64.wrap ((↑(List.length l) : Int) - (1 : Int))))))), ((4 : Nat), AV.p (Part.one (Cell.v (Value.int IntKind.i64 (16 : Int))))), ((9 : Nat), AV.p (Part.one (Cell.h (0 : Nat))))], hp := [((0 : Nat), Ob.row partsT o)], nx := (1 : Nat) })))) Tree.fail)) Tree.fail)) Tree.fail)) (Tree.ret (Sum.inr (Ex.exit (2 : Nat), { env := [((9 : Nat), AV.p (Part.one (Cell.h (0 : Nat))))], hp := [((0 : Nat), Ob.row partsT o)], nx := (1 : Nat) })))
theorem turn_rsbs2 : ∀ a : A_rsbs2, (turnT 0 orc_rsbs2 (evalCode Tryz.prog (lk L_st) Tryz.f13.ntmps 0 20 LT_rsbs (bodyAt c_rsbs p_rsbs2) false (0 :: p_rsbs2)) (sh_rsbs2.enc (e_rsbs2 a))).run = ((T_rsbs2 a).bind fun s => .ret (turnV sh_rsbs2 e_rsbs2 s)).run := by
  rintro ⟨l, i, b, s, o⟩
  kernel_rfl
noncomputable def rsTail (l : Slots) (b : Bools) (s : Ints) (o : Parts) (i t z : Int) : Tree (A_rsbs2 ⊕ (Ex × St)) :=
  .ite (decide (0 ≤ z) && decide (z < (l.length : Int))) (.ite ((((l.getD z.toNat noIns).1 % BitVec.ofInt 8 8).toNat : Int) == 5) (.ite (!(((l.getD z.toNat noIns).1 / BitVec.ofInt 8 16).toNat : Int) == 9) (.ite (decide (0 ≤ z) && decide (z < (l.length : Int))) (.ite ((((l.getD z.toNat noIns).1 % BitVec.ofInt 8 8).toNat : Int) == 5) (.ite (!(((l.getD z.toNat noIns).1 / BitVec.ofInt 8 16).toNat : Int) == 0) (.ret (.inr (.ret, ⟨[(2, AV.c (.v (.slice none 0 0))), (3, AV.c (.v (.int .i64 z))), (4, AV.c (.v (.int .i64 16))), (9, .p (.one (.h 0)))], [(0, .row partsT o)], 1⟩))) (.ite (decide (0 ≤ i) && decide (i < (s.length : Int))) (.ite (bytesOk (o.length + 1) 16 && (o.length + 1).ble 140737488355328) (.ret (.inl (l, IntKind.i64.wrap (i + 1), b, s, o ++ [((s.getD i.toNat (0, ())).1, t, ())]))) .fail) .fail)) (.ret (.inr (.ret, ⟨[(2, AV.c (.v (.slice none 0 0))), (3, AV.c (.v (.int .i64 z))), (4, AV.c (.v (.int .i64 16))), (9, .p (.one (.h 0)))], [(0, .row partsT o)], 1⟩)))) .fail) (.ite (decide (0 ≤ i) && decide (i < (s.length : Int))) (.ite (bytesOk (o.length + 1) 16 && (o.length + 1).ble 140737488355328) (.ret (.inl (l, IntKind.i64.wrap (i + 1), b, s, o ++ [((s.getD i.toNat (0, ())).1, t, ())]))) .fail) .fail)) (.ite (decide (0 ≤ z) && decide (z < (l.length : Int))) (.ite ((((l.getD z.toNat noIns).1 % BitVec.ofInt 8 8).toNat : Int) == 5) (.ite (!(((l.getD z.toNat noIns).1 / BitVec.ofInt 8 16).toNat : Int) == 0) (.ret (.inr (.ret, ⟨[(2, AV.c (.v (.slice none 0 0))), (3, AV.c (.v (.int .i64 z))), (4, AV.c (.v (.int .i64 16))), (9, .p (.one (.h 0)))], [(0, .row partsT o)], 1⟩))) (.ite (decide (0 ≤ i) && decide (i < (s.length : Int))) (.ite (bytesOk (o.length + 1) 16 && (o.length + 1).ble 140737488355328) (.ret (.inl (l, IntKind.i64.wrap (i + 1), b, s, o ++ [((s.getD i.toNat (0, ())).1, t, ())]))) .fail) .fail)) (.ret (.inr (.ret, ⟨[(2, AV.c (.v (.slice none 0 0))), (3, AV.c (.v (.int .i64 z))), (4, AV.c (.v (.int .i64 16))), (9, .p (.one (.h 0)))], [(0, .row partsT o)], 1⟩)))) .fail)) .fail
theorem rsTail_run (l : Slots) (b : Bools) (s : Ints) (o : Parts) (i t z : Int) (hz : 0 ≤ z ∧ z < (l.length : Int)) (hi : 0 ≤ i ∧ i < (s.length : Int)) (ho : o.length ≤ 1000000)
    (hk : B_known (slotA l z.toNat).1 (slotA l z.toNat).2.1 (slotA l z.toNat).2.2.1 (slotA l z.toNat).2.2.2.1 (slotA l z.toNat).2.2.2.2.1 = true) :
    (rsTail l b s o i t z).run = match !(opA l z.toNat == BitVec.ofInt 8 149) && !(opA l z.toNat == BitVec.ofInt 8 5) with
      | true => some (.inr (.ret, ⟨[(2, AV.c (.v (.slice none 0 0))), (3, AV.c (.v (.int .i64 z))), (4, AV.c (.v (.int .i64 16))), (9, .p (.one (.h 0)))], [(0, .row partsT o)], 1⟩))
      | false => some (.inl (l, IntKind.i64.wrap (i + 1), b, s, o ++ [((s.getD i.toNat (0, ())).1, t, ())])) := by
  obtain ⟨_, _, k3, k4, _⟩ := kn_facts _ _ _ _ _ hk
  obtain ⟨x1, x2, x3⟩ := class5r (l.getD z.toNat noIns).1
  unfold rsTail
  simp only [opA, slotA] at *
  rw [← k3, ← k4, x1, x2, x3]
  rw [goTa hz]
  generalize ((l.getD z.toNat noIns).1 % BitVec.ofInt 8 8 == BitVec.ofInt 8 5) = p5
  generalize ((l.getD z.toNat noIns).1 / BitVec.ofInt 8 16 == BitVec.ofInt 8 9) = p9
  generalize ((l.getD z.toNat noIns).1 / BitVec.ofInt 8 16 == BitVec.ofInt 8 0) = p0
  cases p5
  · rw [goF rfl, goTa hz]; rfl
  · rw [goT rfl]
    cases p9
    · rw [goTN rfl, goTa hz, goT rfl]
      cases p0
      · rfl
      · rw [goFN rfl, goTa hi, goTb ⟨by omega, by omega⟩]; rfl
    · rw [goFN rfl, goTa hi, goTb ⟨by omega, by omega⟩]; rfl
def μ_rsbs2 : A_rsbs2 → Nat := fun ⟨l, i, b, s, o⟩ => (froms l (secs l)).length - i.toNat
theorem step_rsbs2 : ∀ a : A_rsbs2, I_rsbs2 a → (∃ a', (T_rsbs2 a).run = some (.inl a') ∧ I_rsbs2 a' ∧ μ_rsbs2 a' < μ_rsbs2 a ∧ (G_rsbs2 a').run = (G_rsbs2 a).run) ∨ (∃ y, (T_rsbs2 a).run = some (.inr y) ∧ (G_rsbs2 a).run = some y ∧ ((∃ id, y.1 = .exit id) ∨ y.1 = .ret)) := by
  rintro ⟨l, i, b, s, o⟩ ⟨h1, h2, h3, h4, h5, rfl, rfl, rfl, h6⟩
  simp only [T_rsbs2]
  have hsl := ints_len (froms l (secs l))
  have hbl := secs_len l
  have hfl := froms_len l (secs l)
  by_cases hi : i < (ints (froms l (secs l))).length
  · have hj : i.toNat < (froms l (secs l)).length := by omega
    obtain ⟨u1, u2⟩ := fnA_up hj
    obtain ⟨v0, v1, v2⟩ := subsL_last hj h5 (secs0 l)
    have hget := subsL_get hj
    have htk := subsL_take hj
    have hsi := ints_get (n := l.length) hj
    have hol : ((subsL l (secs l)).take i.toNat).length ≤ i.toNat := List.length_take_le _ _
    have hlast : 0 ≤ lastI (secs l) (partOf (subsL l (secs l)) i.toNat) ∧ lastI (secs l) (partOf (subsL l (secs l)) i.toNat) < l.length := by omega
    have hns : secA (secs l) ((lastI (secs l) (partOf (subsL l (secs l)) i.toNat)).toNat : Nat) = false := by
      rw [ofToNat hlast.1, v0]
      by_cases c : secA (secs l) ((fnA (froms l (secs l)) l.length (i.toNat + 1) : Int) - 1) = true
      · rw [if_pos c]
        have c' := c
        unfold secA at c ⊢
        rw [show ((fnA (froms l (secs l)) l.length (i.toNat + 1) : Int) - 1).toNat = (fnA (froms l (secs l)) l.length (i.toNat + 1) - 2) + 1 by rw [if_pos c'] at v0; omega, secs_get (by rw [if_pos c'] at v0; omega)] at c
        rw [show ((fnA (froms l (secs l)) l.length (i.toNat + 1) : Int) - 2).toNat = fnA (froms l (secs l)) l.length (i.toNat + 1) - 2 by rw [if_pos c'] at v0; omega, secs_get (by omega)]
        simp only [secB, Bool.and_eq_true, Bool.not_eq_true'] at c
        exact c.2
      · rw [if_neg c]
        simpa using c
    have hkn := h4 _ (by omega) hns
    have hbad : endBad l (secs l) (partOf (subsL l (secs l)) i.toNat) = (!(opA l (lastI (secs l) (partOf (subsL l (secs l)) i.toNat)).toNat == BitVec.ofInt 8 149) && !(opA l (lastI (secs l) (partOf (subsL l (secs l)) i.toNat)).toNat == BitVec.ofInt 8 5)) := rfl
    have run := fun t z (ht : t = (fnA (froms l (secs l)) l.length (i.toNat + 1) : Int)) (hz : z = lastI (secs l) (partOf (subsL l (secs l)) i.toNat)) => rsTail_run l (secs l) (ints (froms l (secs l))) ((subsL l (secs l)).take i.toNat) i t z (by rw [hz]; exact hlast) ⟨h1, hi⟩ (by omega) (by rw [hz]; exact hkn)
    have done : ∀ t z, t = (fnA (froms l (secs l)) l.length (i.toNat + 1) : Int) → z = lastI (secs l) (partOf (subsL l (secs l)) i.toNat) →
        (∃ a', (rsTail l (secs l) (ints (froms l (secs l))) ((subsL l (secs l)).take i.toNat) i t z).run = some (.inl a') ∧ I_rsbs2 a' ∧ μ_rsbs2 a' < μ_rsbs2 (l, i, secs l, ints (froms l (secs l)), (subsL l (secs l)).take i.toNat) ∧ (G_rsbs2 a').run = (G_rsbs2 (l, i, secs l, ints (froms l (secs l)), (subsL l (secs l)).take i.toNat)).run) ∨
        (∃ y, (rsTail l (secs l) (ints (froms l (secs l))) ((subsL l (secs l)).take i.toNat) i t z).run = some (.inr y) ∧ (G_rsbs2 (l, i, secs l, ints (froms l (secs l)), (subsL l (secs l)).take i.toNat)).run = some y ∧ ((∃ id, y.1 = .exit id) ∨ y.1 = .ret)) := fun t z ht hz => by
      rw [run t z ht hz, hz, ← hbad]
      cases hb : endBad l (secs l) (partOf (subsL l (secs l)) i.toNat) with
      | true =>
        right
        refine ⟨_, rfl, ?_, .inr rfl⟩
        have hs : endO l (secs l) (subsL l (secs l)) = some i.toNat := scan_hit h1 (by rw [subsL_len]; omega) h6 hb
        have hf : endedI l (secs l) (subsL l (secs l)) = some (lastI (secs l) (partOf (subsL l (secs l)) i.toNat)) := by
          unfold endedI
          rw [show scan (fun j => endBad l (secs l) (partOf (subsL l (secs l)) j)) (subsL l (secs l)).length 0 = some i.toNat from hs]; rfl
        simp only [G_rsbs2, rs2G]
        rw [goT (by unfold endIs; rw [hf]; rfl), show endAt l (secs l) (subsL l (secs l)) = lastI (secs l) (partOf (subsL l (secs l)) i.toNat) by unfold endAt; rw [hf]; rfl, show endIx l (secs l) (subsL l (secs l)) = i.toNat by unfold endIx; rw [hs]; rfl]; rfl
      | false =>
        left
        refine ⟨_, rfl, ⟨by rw [wrap64 (by omega) (by omega)]; omega, by rw [wrap64 (by omega) (by omega)]; omega, h3, h4, h5, rfl, rfl, ?_, ?_⟩, ?_, rfl⟩
        · rw [wrap64 (by omega) (by omega), toNat_up h1, htk, ht, show ((ints (froms l (secs l))).getD i.toNat (0, ())).1 = _ from hsi]
        · rw [wrap64 (by omega) (by omega)]
          exact all_succ h1 h6 hb
        · simp only [μ_rsbs2]; rw [wrap64 (by omega) (by omega)]; omega
    rw [goTd hi, wrap64 (n := i + 1) (by omega) (by omega)]
    by_cases hn : i + 1 < (ints (froms l (secs l))).length
    · have hto : ((ints (froms l (secs l))).getD (i + 1).toNat (0, ())).1 = (fnA (froms l (secs l)) l.length (i.toNat + 1) : Int) := by
        rw [toNat_up h1]; exact ints_get (by omega)
      rw [goTd hn, goTa ⟨by omega, hn⟩, hto, wrap64 (n := (fnA (froms l (secs l)) l.length (i.toNat + 1) : Int) - 1) (by omega) (by omega), goTa ⟨by omega, by omega⟩]
      cases c : ((secs l).getD ((fnA (froms l (secs l)) l.length (i.toNat + 1) : Int) - 1).toNat (false, ())).1 with
      | true =>
        rw [if_pos (c := secA (secs l) ((fnA (froms l (secs l)) l.length (i.toNat + 1) : Int) - 1) = true) c] at v0
        rw [goT rfl, wrap64 (n := (fnA (froms l (secs l)) l.length (i.toNat + 1) : Int) - 1 - 1) (by omega) (by omega)]
        have := done _ ((fnA (froms l (secs l)) l.length (i.toNat + 1) : Int) - 1 - 1) rfl (by omega)
        unfold rsTail at this
        rw [wrap64 (n := i + 1) (by omega) (by omega)] at this
        exact this
      | false =>
        rw [if_neg (by rw [secA, c]; exact Bool.false_ne_true)] at v0
        rw [goF rfl]
        have := done _ ((fnA (froms l (secs l)) l.length (i.toNat + 1) : Int) - 1) rfl (by omega)
        unfold rsTail at this
        rw [wrap64 (n := i + 1) (by omega) (by omega)] at this
        exact this
    · have hto : (l.length : Int) = (fnA (froms l (secs l)) l.length (i.toNat + 1) : Int) := by rw [fnA_end (by omega)]
      rw [goFd hn, wrap64 (n := (l.length : Int) - 1) (by omega) (by omega), goTa ⟨by omega, by omega⟩]
      rw [← hto] at v0
      cases c : ((secs l).getD ((l.length : Int) - 1).toNat (false, ())).1 with
      | true =>
        rw [if_pos (c := secA (secs l) ((l.length : Int) - 1) = true) c] at v0
        rw [goT rfl, wrap64 (n := (l.length : Int) - 1 - 1) (by omega) (by omega)]
        have := done _ ((l.length : Int) - 1 - 1) hto (by omega)
        unfold rsTail at this
        rw [wrap64 (n := i + 1) (by omega) (by omega)] at this
        exact this
      | false =>
        rw [if_neg (by rw [secA, c]; exact Bool.false_ne_true)] at v0
        rw [goF rfl]
        have := done _ ((l.length : Int) - 1) hto (by omega)
        unfold rsTail at this
        rw [wrap64 (n := i + 1) (by omega) (by omega)] at this
        exact this
  · right
    rw [goFd hi]
    refine ⟨_, rfl, ?_, .inl ⟨2, rfl⟩⟩
    have hf : endedI l (secs l) (subsL l (secs l)) = none := by unfold endedI; rw [scan_end (by rw [subsL_len, ← hsl]; exact hi) h6]; rfl
    simp only [G_rsbs2, rs2G]
    rw [goF (by unfold endIs; rw [hf]; rfl), List.take_of_length_le (by rw [subsL_len]; omega)]; rfl
noncomputable def T_rsbs1 : Slots × Int × Bools → Tree (A_rsbs1 ⊕ (Ex × St)) := fun ⟨l, i, b⟩ => 
Tree.ite (decide (i < (↑(List.length l) : Int))) (Tree.ite (decide ((0 : Int) ≤ i) && decide (i < (↑(List.length b) : Int))) (Tree.ite (!(List.getD b i.toNat (false, ())).fst) (Tree.ite (decC ((0 : Int) ≤ i ∧ i < (↑(List.length l) : (ShA.c (ShC.i IntKind.i64)).den) ∧ List.length l ≤ (140737488355328 : Nat) ∧ List.length b = List.length l)) (Tree.ite (wrongI l i.toNat b != (0 : Int)) (Tree.ret (Sum.inr (Ex.ret, { env := [((0 : Nat), AV.p (Part.one (Cell.d insT l))), ((2 : Nat), AV.p (Part.one (Cell.v (Value.slice none (0 : Nat) (0 : Nat))))), ((3 : Nat), AV.p (Part.one (Cell.v (Value.int IntKind.i64 i)))), ((4 : Nat), AV.p (Part.one (Cell.v (Value.int IntKind.i64 (wrongI l i.toNat b))))), ((5 : Nat), AV.p (Part.one (Cell.h (0 : Nat))))], hp := [((0 : Nat), Ob.row boolsT b)], nx := (1 : Nat) }))) (Tree.ret (Sum.inl (l, IntKind.i64.wrap (i + (1 : Int)), b)))) Tree.fail) (Tree.ret (Sum.inl (l, IntKind.i64.wrap (i + (1 : Int)), b)))) Tree.fail) (Tree.ret (Sum.inr (Ex.exit (0 : Nat), { env := [((0 : Nat), AV.p (Part.one (Cell.d insT l))), ((5 : Nat), AV.p (Part.one (Cell.h (0 : Nat))))], hp := [((0 : Nat), Ob.row boolsT b)], nx := (1 : Nat) })))
theorem turn_rsbs1 : ∀ a : A_rsbs1, (turnT 0 orc_rsbs1 (evalCode Tryz.prog (lk L_st) Tryz.f13.ntmps 0 20 LT_rsbs (bodyAt c_rsbs p_rsbs1) false (0 :: p_rsbs1)) (sh_rsbs1.enc (e_rsbs1 a))).run = ((T_rsbs1 a).bind fun s => .ret (turnV sh_rsbs1 e_rsbs1 s)).run := by
  rintro ⟨l, i, b⟩
  kernel_rfl
def μ_rsbs1 : A_rsbs1 → Nat := fun ⟨l, i, b⟩ => l.length - i.toNat
theorem step_rsbs1 : ∀ a : A_rsbs1, I_rsbs1 a → (∃ a', (T_rsbs1 a).run = some (.inl a') ∧ I_rsbs1 a' ∧ μ_rsbs1 a' < μ_rsbs1 a ∧ (G_rsbs1 a').run = (G_rsbs1 a).run) ∨ (∃ y, (T_rsbs1 a).run = some (.inr y) ∧ (G_rsbs1 a).run = some y ∧ ((∃ id, y.1 = .exit id) ∨ y.1 = .ret)) := by
  rintro ⟨l, i, b⟩ ⟨h1, h2, h3⟩
  obtain ⟨h4, h5⟩ := h2
  simp only [T_rsbs1]
  by_cases hi : i < l.length
  · rw [goTd hi, goTa ⟨h1, by omega⟩, wrap64 (n := i + 1) (by omega) (by omega)]
    have e : slotBad l b i.toNat = (!(b.getD i.toNat (false, ())).1 && !(wrongI l i.toNat b == 0)) := by unfold slotBad secA; rw [ofToNat h1]
    cases hs : (b.getD i.toNat (false, ())).1 with
    | true =>
      left
      rw [hs] at e
      rw [goFN rfl]
      exact ⟨_, rfl, ⟨by omega, ⟨h4, h5⟩, all_succ h1 h3 e⟩, by simp only [μ_rsbs1]; omega, rfl⟩
    | false =>
      rw [hs] at e
      rw [goTN rfl, goT (decP ⟨h1, hi, h4, h5⟩)]
      by_cases hw : wrongI l i.toNat b = 0
      · left
        rw [goFne hw]
        exact ⟨_, rfl, ⟨by omega, ⟨h4, h5⟩, all_succ h1 h3 (by rw [e, hw]; rfl)⟩, by simp only [μ_rsbs1]; omega, rfl⟩
      · right
        rw [goTne hw]
        refine ⟨_, rfl, ?_, .inr rfl⟩
        have hf : firstBad l b = some i.toNat := scan_hit h1 (by omega) h3 (by rw [e]; simp [hw])
        simp only [G_rsbs1, rs1G]
        have e1 : badIs l b = true := by unfold badIs; rw [hf]; rfl
        have e2 : badAt l b = i.toNat := by unfold badAt; rw [hf]; rfl
        rw [goT e1, e2, ofToNat h1]; rfl
  · right
    rw [goFd hi]
    refine ⟨_, rfl, ?_, .inl ⟨0, rfl⟩⟩
    have hf : firstBad l b = none := scan_end hi h3
    have e1 : badIs l b = false := by unfold badIs; rw [hf]; rfl
    simp only [G_rsbs1, rs1G]
    rw [goF e1]; rfl
theorem lok_rsbs : LOk Tryz.prog (lk L_st) Tryz.f13.ntmps 0 20 LT_rsbs c_rsbs := lok_view (lok_view (noL_ok2 _ _ _ _ _ _ _) (by kernel_rfl) e_rsbs2 (by rintro ⟨⟨l, ⟨⟩, ⟨⟩, ⟨⟩, i, ⟨⟩⟩, ⟨b, s, o, ⟨⟩⟩⟩; exact ⟨(l, i, b, s, o), rfl⟩) T_rsbs2 turn_rsbs2 I_rsbs2 G_rsbs2 (by rintro ⟨l, i, b, s, o⟩; rfl) μ_rsbs2 step_rsbs2) (by kernel_rfl) e_rsbs1 (by rintro ⟨⟨l, ⟨⟩, i, ⟨⟩⟩, ⟨b, ⟨⟩⟩⟩; exact ⟨(l, i, b), rfl⟩) T_rsbs1 turn_rsbs1 I_rsbs1 G_rsbs1 (by rintro ⟨l, i, b⟩; rfl) μ_rsbs1 step_rsbs1
def ea_rsbs : Slots → denAs [.c (.d insT)] := fun l => (l, ())
def eo_rsbs : Slots → denObs [] := fun l => ()
noncomputable def E_rsbs : Slots → Tree (AV × List Ob) := fun l => 
Tree.ite (!(↑(List.length l) : Int) == (0 : Int)) (Tree.ite (decide ((4096 : Int) < (↑(List.length l) : Int))) (Tree.ret (AV.t [Part.one (Cell.h (0 : Nat)), Part.one (Cell.v (Value.int IntKind.i64 (0 : Int))), Part.one (Cell.v (Value.int IntKind.i64 (10 : Int)))], [Ob.row partsT []])) (Tree.ite (decC (List.length l ≤ (140737488355328 : Nat))) (Tree.ite (decC ((0 : Int) ≤ (0 : Int) ∧ lenOk l (secs l) ∧ ∀ (j : Nat), (↑j : Int) < (0 : Int) → slotBad l (secs l) j = false)) (Tree.ite (badIs l (secs l)) (Tree.ret (AV.t [Part.one (Cell.h (0 : Nat)), Part.one (Cell.v (Value.int IntKind.i64 (↑(badAt l (secs l)) : Int))), Part.one (Cell.v (Value.int IntKind.i64 (wrongI l (badAt l (secs l)) (secs l))))], [Ob.row partsT []])) (Tree.ite (decC ((0 : Nat) < List.length l ∧ List.length l ≤ (1000000 : Nat) ∧ AllKnown l ∧ Targets l (secs l))) (Tree.ite (decide ((64 : Int) < (↑(List.length (ints (froms l (secs l)))) : Int))) (Tree.ret (AV.t [Part.one (Cell.h (0 : Nat)), Part.one (Cell.v (Value.int IntKind.i64 (0 : Int))), Part.one (Cell.v (Value.int IntKind.i64 (17 : Int)))], [Ob.row partsT []])) (Tree.ite (decC ((0 : Int) ≤ (0 : Int) ∧ (0 : Int) ≤ (↑(froms l (secs l)).length : Int) ∧ List.length l ≤ (1000000 : Nat) ∧ AllKnown l ∧ Targets l (secs l) ∧ secs l = secs l ∧ ints (froms l (secs l)) = ints (froms l (secs l)) ∧ [] = List.take (0 : Nat) (subsL l (secs l)) ∧ ∀ (j : Nat), (↑j : Int) < (0 : Int) → endBad l (secs l) (In.partOf (subsL l (secs l)) j) = false)) (Tree.ite (endIs l (secs l) (subsL l (secs l))) (Tree.ret (AV.t [Part.one (Cell.h (0 : Nat)), Part.one (Cell.v (Value.int IntKind.i64 (endAt l (secs l) (subsL l (secs l))))), Part.one (Cell.v (Value.int IntKind.i64 (16 : Int)))], [Ob.row partsT []])) (Tree.ret (AV.t [Part.one (Cell.h (0 : Nat)), Part.one (Cell.v (Value.int IntKind.i64 (0 : Int))), Part.one (Cell.v (Value.int IntKind.i64 (0 : Int)))], [Ob.row partsT (subsL l (secs l))]))) Tree.fail)) Tree.fail)) Tree.fail) Tree.fail)) (Tree.ret (AV.t [Part.one (Cell.h (0 : Nat)), Part.one (Cell.v (Value.int IntKind.i64 (0 : Int))), Part.one (Cell.v (Value.int IntKind.i64 (10 : Int)))], [Ob.row partsT []]))
noncomputable def F_rsbs : denAs [.c (.d insT)] → denObs [] → Tree (AV × List Ob) := fun x y => match x, y with
  | (l, ()), () => ckP (l.length ≤ 140737488355328) (.ret (.t [.one (.h 0), .one (.v (.int .i64 (sbs l).2.1)), .one (.v (.int .i64 (sbs l).2.2))], [Ob.row partsT (sbs l).1]))
theorem ev_rsbs : ∀ a, (evalFnL Tryz.prog (lk L_st) 20 LT_rsbs Tryz.f13 c_rsbs [(0, partsT)] (encAs [.c (.d insT)] (ea_rsbs a)) (encOs [] (eo_rsbs a))).run = (E_rsbs a).run := by
  rintro l
  kernel_rfl
theorem fe_rsbs : ∀ a y, (F_rsbs (ea_rsbs a) (eo_rsbs a)).run = some y → (E_rsbs a).run = some y := by
  rintro l y h
  obtain ⟨h1, h⟩ := ckP_run h
  rw [← h]
  change l.length ≤ 140737488355328 at h1
  dsimp only [E_rsbs]
  change _ = (Tree.ret (AV.t [.one (.h 0), .one (.v (.int .i64 (sbs l).2.1)), .one (.v (.int .i64 (sbs l).2.2))], [Ob.row partsT (sbs l).1])).run
  by_cases g0 : l.length < 1 ∨ 4096 < l.length
  · unfold sbs
    rw [if_pos g0]
    by_cases g : (l.length : Int) = 0
    · exact goFN (by rw [g]; rfl)
    · exact (goTN (beq_false_of_ne g)).trans (goTd (by omega))
  refine (goTN (beq_false_of_ne (by omega))).trans ((goFd (by omega)).trans ?_)
  refine (goT (decP h1)).trans ((goT (decP ⟨Int.le_refl 0, lenOkS h1, fun j hj => by omega⟩)).trans ?_)
  cases g1 : firstBad l (secs l) with
  | some k =>
    have e1 : badIs l (secs l) = true := by unfold badIs; rw [g1]; rfl
    have e2 : badAt l (secs l) = k := by unfold badAt; rw [g1]; rfl
    unfold sbs
    rw [if_neg g0, g1]
    refine (goT e1).trans ?_
    rw [e2]
  | none =>
    have e1 : badIs l (secs l) = false := by unfold badIs; rw [g1]; rfl
    have ht := good_targets g1
    have hk := good_known g1
    refine (goF e1).trans ((goT (decP ⟨by omega, by omega, hk, ht⟩)).trans ?_)
    rw [ints_len]
    unfold sbs
    rw [if_neg g0, g1]
    dsimp only
    by_cases g2 : 64 < (froms l (secs l)).length
    · rw [if_pos g2]
      exact goTd (by omega)
    refine (goFd (by omega)).trans ?_
    rw [if_neg g2]
    refine (goT (decP ⟨Int.le_refl 0, by omega, by omega, hk, ht, rfl, rfl, rfl, fun j hj => by omega⟩)).trans ?_
    cases g3 : endedI l (secs l) (subsL l (secs l)) with
    | some z =>
      have e2 : endIs l (secs l) (subsL l (secs l)) = true := by unfold endIs; rw [g3]; rfl
      have e3 : endAt l (secs l) (subsL l (secs l)) = z := by unfold endAt; rw [g3]; rfl
      refine (goT e2).trans ?_
      rw [e3]
    | none =>
      have e2 : endIs l (secs l) (subsL l (secs l)) = false := by unfold endIs; rw [g3]; rfl
      exact goF e2
theorem ok_rsbs : SummOk Kn Tryz.prog 13 (sumT [.dp insT] false [.c (.d insT)] [] F_rsbs) := sumT_view tok_st Tryz.checked.mixed Tryz.func13 (by kernel_rfl) (by rfl) 20 [(0, partsT)] ea_rsbs eo_rsbs
  (by rintro ⟨l, ⟨⟩⟩ ⟨⟩; exact ⟨l, rfl, rfl⟩) LT_rsbs 0 (by rintro ⟨⟩; rfl) lok_rsbs E_rsbs ev_rsbs fe_rsbs
noncomputable def L_rsbs : List (Nat × Summ) := (13, (sumT [.dp insT] false [.c (.d insT)] [] F_rsbs)) :: L_st
theorem tok_rsbs : TOk Kn Tryz.prog (lk L_rsbs) := lk_cons ok_rsbs tok_st
theorem sbs_bad {l : Slots} (h : (sbs l).2.2 ≠ 0) : chk l = ((sbs l).2.1, (sbs l).2.2) := by
  unfold sbs chk at *
  by_cases g0 : l.length < 1 ∨ 4096 < l.length
  · rw [if_pos g0, if_pos g0]
  rw [if_neg g0] at h
  rw [if_neg g0, if_neg g0]
  cases g1 : firstBad l (secs l) with
  | some k => rfl
  | none =>
    rw [g1] at h
    dsimp only at h ⊢
    by_cases g2 : 64 < (froms l (secs l)).length
    · rw [if_pos g2, if_pos g2]
    rw [if_neg g2] at h
    rw [if_neg g2, if_neg g2]
    cases g3 : endedI l (secs l) (subsL l (secs l)) with
    | some z => rfl
    | none => rw [g3] at h; exact absurd rfl h
theorem sbs_zero {l : Slots} (h : (sbs l).2.2 = 0) : ¬ (l.length < 1 ∨ 4096 < l.length) ∧ firstBad l (secs l) = none ∧ sbs l = (subsL l (secs l), 0, 0) ∧ chk l = match leadsI l (secs l) (subsL l (secs l)) with
    | some k => (k, 15)
    | none => (0, 0) := by
  unfold sbs chk at *
  by_cases g0 : l.length < 1 ∨ 4096 < l.length
  · rw [if_pos g0] at h; cases h
  rw [if_neg g0] at h
  rw [if_neg g0, if_neg g0]
  cases g1 : firstBad l (secs l) with
  | some k =>
    rw [g1] at h
    exact absurd h (bad_some g1).2.1
  | none =>
    rw [g1] at h
    dsimp only at h ⊢
    by_cases g2 : 64 < (froms l (secs l)).length
    · rw [if_pos g2] at h; cases h
    rw [if_neg g2] at h
    rw [if_neg g2, if_neg g2]
    cases g3 : endedI l (secs l) (subsL l (secs l)) with
    | some z => rw [g3] at h; cases h
    | none => exact ⟨g0, rfl, rfl, rfl⟩
def rcO (l : Slots) (b : Bools) (p : Parts) : Option Nat := scan (refBad l b p) l.length 0
def rcIs (l : Slots) (b : Bools) (p : Parts) : Bool := (rcO l b p).isSome
def rcAt (l : Slots) (b : Bools) (p : Parts) : Nat := (rcO l b p).getD 0
def rcG (l : Slots) (b : Bools) (p : Parts) : Tree (Ex × St) := .ite (rcIs l b p) (.ret (.ret, ⟨[(2, AV.c (.v (.int .i64 (rcAt l b p)))), (3, AV.c (.v (.int .i64 (15))))], [], 0⟩)) (.ret (.exit 0, ⟨[], [], 0⟩))
noncomputable abbrev c_rchk : Code := Tryz.f6.body.getD .skip
def p_rchk : List Nat := [0, 1, 0, 1, 1, 1, 1]
def sh_rchk : Shape := ⟨[(0, .c (.d insT)), (4, .c (.h 0)), (7, .c (.h 1)), (8, .c (.i .i64))], [.row partsT, .row boolsT]⟩
@[reducible] def A_rchk : Type := Slots × Int × Parts × Bools
def e_rchk : A_rchk → sh_rchk.den := fun ⟨l, i, p, b⟩ => ((l, (), (), i, ()), (p, b, ()))
def v_rchk : sh_rchk.den → A_rchk := fun d => match d with
  | ((l, (), (), i, ()), (p, b, ())) => (l, i, p, b)
def I_rchk : A_rchk → Prop := fun ⟨l, i, p, b⟩ => 0 ≤ i ∧ l.length ≤ 1000000 ∧ p.length ≤ 1000000 ∧ b = secs l ∧ AllKnown l ∧ ∀ j : Nat, (j : Int) < i → refBad l b p j = false
noncomputable def G_rchk : A_rchk → Tree (Ex × St) := fun ⟨l, i, p, b⟩ => rcG l b p
noncomputable def orc_rchk : Orc := ⟨sh_rchk, [(4, partsT)], [2, 3], [], fun d => ckP (I_rchk (v_rchk d)) (G_rchk (v_rchk d))⟩
noncomputable def LT_rchk : LT := oneL p_rchk orc_rchk (noL)
noncomputable def T_rchk : Slots × Int × Parts × Bools → Tree (A_rchk ⊕ (Ex × St)) := fun ⟨l, i, p, b⟩ => 
Tree.ite (decide (i < (↑(List.length l) : Int))) (Tree.ite (decide ((0 : Int) ≤ i) && decide (i < (↑(List.length b) : Int))) (Tree.ite (!(List.getD b i.toNat (false, ())).fst) (Tree.ite (decide ((0 : Int) ≤ i) && decide (i < (↑(List.length l) : Int))) (Tree.ite ((↑((List.getD l i.toNat noIns).fst % BitVec.ofInt (8 : Nat) (8 : Int)).toNat : Int) == (5 : Int)) (Tree.ite (!(↑((List.getD l i.toNat noIns).fst / BitVec.ofInt (8 : Nat) (16 : Int)).toNat : Int) == (0 : Int)) (Tree.ite (decide ((0 : Int) ≤ i) && decide (i < (↑(List.length l) : Int))) (Tree.ite (!B_rcmp (List.getD l i.toNat noIns).fst (List.getD l i.toNat noIns).snd.fst (List.getD l i.toNat noIns).snd.snd.fst (List.getD l i.toNat noIns).snd.snd.snd.fst (List.getD l i.toNat noIns).snd.snd.snd.snd.fst) (Tree.ret (Sum.inl (l, IntKind.i64.wrap (i + (1 : Int)), p, b))) (Tree.ite (decide ((0 : Int) ≤ i) && decide (i < (↑(List.length l) : Int))) (Tree.ite (!decide (toV (List.length l) i (IntKind.i64.wrap (List.getD l i.toNat noIns).snd.snd.snd.fst) < (0 : Int))) (Tree.ite (decide ((0 : Int) ≤ toV (List.length l) i (IntKind.i64.wrap (List.getD l i.toNat noIns).snd.snd.snd.fst)) && decide (toV (List.length l) i (IntKind.i64.wrap (List.getD l i.toNat noIns).snd.snd.snd.fst) < (↑(List.length b) : Int))) (Tree.ite (!(List.getD b (toV (List.length l) i (IntKind.i64.wrap (List.getD l i.toNat noIns).snd.snd.snd.fst)).toNat (false, ())).fst) (Tree.ite (decC (List.length p ≤ (1000000 : Nat))) (Tree.ite (decC (List.length p ≤ (1000000 : Nat))) (Tree.ite (ofI p (toV (List.length l) i (IntKind.i64.wrap (List.getD l i.toNat noIns).snd.snd.snd.fst)) != ofI p i) (Tree.ret (Sum.inr (Ex.ret, { env := [((2 : Nat), AV.p (Part.one (Cell.v (Value.int IntKind.i64 i)))), ((3 : Nat), AV.p (Part.one (Cell.v (Value.int IntKind.i64 (15 : Int)))))], hp := [], nx := (0 : Nat) }))) (Tree.ret (Sum.inl (l, IntKind.i64.wrap (i + (1 : Int)), p, b)))) Tree.fail) Tree.fail) (Tree.ret (Sum.inr (Ex.ret, { env := [((2 : Nat), AV.p (Part.one (Cell.v (Value.int IntKind.i64 i)))), ((3 : Nat), AV.p (Part.one (Cell.v (Value.int IntKind.i64 (15 : Int)))))], hp := [], nx := (0 : Nat) })))) Tree.fail) (Tree.ret (Sum.inr (Ex.ret, { env := [((2 : Nat), AV.p (Part.one (Cell.v (Value.int IntKind.i64 i)))), ((3 : Nat), AV.p (Part.one (Cell.v (Value.int IntKind.i64 (15 : Int)))))], hp := [], nx := (0 : Nat) })))) Tree.fail)) Tree.fail) (Tree.ite (decide ((0 : Int) ≤ i) && decide (i < (↑(List.length l) : Int))) (Tree.ite (!decide (toV (List.length l) i (IntKind.i64.wrap (List.getD l i.toNat noIns).snd.snd.snd.fst) < (0 : Int))) (Tree.ite (decide ((0 : Int) ≤ toV (List.length l) i (IntKind.i64.wrap (List.getD l i.toNat noIns).snd.snd.snd.fst)) && decide (toV (List.length l) i (IntKind.i64.wrap (List.getD l i.toNat noIns).snd.snd.snd.fst) < (↑(List.length b) : Int))) (Tree.ite (!(List.getD b (toV (List.length l) i (IntKind.i64.wrap (List.getD l i.toNat noIns).snd.snd.snd.fst)).toNat (false, ())).fst) (Tree.ite (decC (List.length p ≤ (1000000 : Nat))) (Tree.ite (decC (List.length p ≤ (1000000 : Nat))) (Tree.ite (ofI p (toV (List.length l) i (IntKind.i64.wrap (List.getD l i.toNat noIns).snd.snd.snd.fst)) != ofI p i) (Tree.ret (Sum.inr (Ex.ret, { env := [((2 : Nat), AV.p (Part.one (Cell.v (Value.int IntKind.i64 i)))), ((3 : Nat), AV.p (Part.one (Cell.v (Value.int IntKind.i64 (15 : Int)))))], hp := [], nx := (0 : Nat) }))) (Tree.ret (Sum.inl (l, IntKind.i64.wrap (i + (1 : Int)), p, b)))) Tree.fail) Tree.fail) (Tree.ret (Sum.inr (Ex.ret, { env := [((2 : Nat), AV.p (Part.one (Cell.v (Value.int IntKind.i64 i)))), ((3 : Nat), AV.p (Part.one (Cell.v (Value.int IntKind.i64 (15 : Int)))))], hp := [], nx := (0 : Nat) })))) Tree.fail) (Tree.ret (Sum.inr (Ex.ret, { env := [((2 : Nat), AV.p (Part.one (Cell.v (Value.int IntKind.i64 i)))), ((3 : Nat), AV.p (Part.one (Cell.v (Value.int IntKind.i64 (15 : Int)))))], hp := [], nx := (0 : Nat) })))) Tree.fail)) (Tree.ite (decide ((0 : Int) ≤ i) && decide (i < (↑(List.length l) : Int))) (Tree.ite (!B_rcmp (List.getD l i.toNat noIns).fst (List.getD l i.toNat noIns).snd.fst (List.getD l i.toNat noIns).snd.snd.fst (List.getD l i.toNat noIns).snd.snd.snd.fst (List.getD l i.toNat noIns).snd.snd.snd.snd.fst) (Tree.ret (Sum.inl (l, IntKind.i64.wrap (i + (1 : Int)), p, b))) (Tree.ite (decide ((0 : Int) ≤ i) && decide (i < (↑(List.length l) : Int))) (Tree.ite (!decide (toV (List.length l) i (IntKind.i64.wrap (List.getD l i.toNat noIns).snd.snd.snd.fst) < (0 : Int))) (Tree.ite (decide ((0 : Int) ≤ toV (List.length l) i (IntKind.i64.wrap (List.getD l i.toNat noIns).snd.snd.snd.fst)) && decide (toV (List.length l) i (IntKind.i64.wrap (List.getD l i.toNat noIns).snd.snd.snd.fst) < (↑(List.length b) : Int))) (Tree.ite (!(List.getD b (toV (List.length l) i (IntKind.i64.wrap (List.getD l i.toNat noIns).snd.snd.snd.fst)).toNat (false, ())).fst) (Tree.ite (decC (List.length p ≤ (1000000 : Nat))) (Tree.ite (decC (List.length p ≤ (1000000 : Nat))) (Tree.ite (ofI p (toV (List.length l) i (IntKind.i64.wrap (List.getD l i.toNat noIns).snd.snd.snd.fst)) != ofI p i) (Tree.ret (Sum.inr (Ex.ret, { env := [((2 : Nat), AV.p (Part.one (Cell.v (Value.int IntKind.i64 i)))), ((3 : Nat), AV.p (Part.one (Cell.v (Value.int IntKind.i64 (15 : Int)))))], hp := [], nx := (0 : Nat) }))) (Tree.ret (Sum.inl (l, IntKind.i64.wrap (i + (1 : Int)), p, b)))) Tree.fail) Tree.fail) (Tree.ret (Sum.inr (Ex.ret, { env := [((2 : Nat), AV.p (Part.one (Cell.v (Value.int IntKind.i64 i)))), ((3 : Nat), AV.p (Part.one (Cell.v (Value.int IntKind.i64 (15 : Int)))))], hp := [], nx := (0 : Nat) })))) Tree.fail) (Tree.ret (Sum.inr (Ex.ret, { env := [((2 : Nat), AV.p (Part.one (Cell.v (Value.int IntKind.i64 i)))), ((3 : Nat), AV.p (Part.one (Cell.v (Value.int IntKind.i64 (15 : Int)))))], hp := [], nx := (0 : Nat) })))) Tree.fail)) Tree.fail)) Tree.fail) (Tree.ret (Sum.inl (l, IntKind.i64.wrap (i + (1 : Int)), p, b)))) Tree.fail) (Tree.ret (Sum.inr (Ex.exit (0 : Nat), { env := [], hp := [], nx := (0 : Nat) })))
theorem turn_rchk : ∀ a : A_rchk, (turnT 0 orc_rchk (evalCode Tryz.prog (lk L_rsbs) Tryz.f6.ntmps 0 20 LT_rchk (bodyAt c_rchk p_rchk) false (0 :: p_rchk)) (sh_rchk.enc (e_rchk a))).run = ((T_rchk a).bind fun s => .ret (turnV sh_rchk e_rchk s)).run := by
  rintro ⟨l, i, p, b⟩
  kernel_rfl
noncomputable def rcTail (l : Slots) (b : Bools) (p : Parts) (i : Int) : Tree (A_rchk ⊕ (Ex × St)) :=
  .ite (decide (0 ≤ i) && decide (i < (l.length : Int))) (.ite (!decide (toV l.length i (IntKind.i64.wrap (l.getD i.toNat noIns).2.2.2.1) < 0)) (.ite (decide (0 ≤ toV l.length i (IntKind.i64.wrap (l.getD i.toNat noIns).2.2.2.1)) && decide (toV l.length i (IntKind.i64.wrap (l.getD i.toNat noIns).2.2.2.1) < (b.length : Int))) (.ite (!(b.getD (toV l.length i (IntKind.i64.wrap (l.getD i.toNat noIns).2.2.2.1)).toNat (false, ())).1) (.ite (decC (p.length ≤ 1000000)) (.ite (decC (p.length ≤ 1000000)) (.ite (ofI p (toV l.length i (IntKind.i64.wrap (l.getD i.toNat noIns).2.2.2.1)) != ofI p i) (.ret (.inr (.ret, ⟨[(2, AV.c (.v (.int .i64 i))), (3, AV.c (.v (.int .i64 15)))], [], 0⟩))) (.ret (.inl (l, i + 1, p, b)))) .fail) .fail) (.ret (.inr (.ret, ⟨[(2, AV.c (.v (.int .i64 i))), (3, AV.c (.v (.int .i64 15)))], [], 0⟩)))) .fail) (.ret (.inr (.ret, ⟨[(2, AV.c (.v (.int .i64 i))), (3, AV.c (.v (.int .i64 15)))], [], 0⟩)))) .fail
theorem rcTail_run (l : Slots) (b : Bools) (p : Parts) (i : Int) (hi : 0 ≤ i ∧ i < (l.length : Int)) (hl : l.length ≤ 1000000) (hp : p.length ≤ 1000000) (hb : b.length = l.length) :
    (rcTail l b p i).run = match decide (toJ l i < 0) || secA b (toJ l i) || !(ofI p (toJ l i) == ofI p i) with
      | true => some (.inr (.ret, ⟨[(2, AV.c (.v (.int .i64 i))), (3, AV.c (.v (.int .i64 15)))], [], 0⟩))
      | false => some (.inl (l, i + 1, p, b)) := by
  unfold rcTail
  rw [goTa hi]
  have hlt : ¬ toJ l i < 0 → toJ l i < l.length := fun h => by
    by_cases g : 0 ≤ jumpI l i ∧ jumpI l i < l.length
    · rw [toJ_in g.1 g.2]; exact g.2
    · exact absurd (toJ_out g ▸ (by decide : (-1 : Int) < 0)) h
  change ((.ite (!decide (toJ l i < 0)) (.ite (decide (0 ≤ toJ l i) && decide (toJ l i < (b.length : Int))) (.ite (!(b.getD (toJ l i).toNat (false, ())).1) (.ite (decC (p.length ≤ 1000000)) (.ite (decC (p.length ≤ 1000000)) (.ite (ofI p (toJ l i) != ofI p i) (.ret (.inr (.ret, ⟨[(2, AV.c (.v (.int .i64 i))), (3, AV.c (.v (.int .i64 15)))], [], 0⟩))) (.ret (.inl (l, i + 1, p, b)))) .fail) .fail) (.ret (.inr (.ret, ⟨[(2, AV.c (.v (.int .i64 i))), (3, AV.c (.v (.int .i64 15)))], [], 0⟩)))) .fail) (.ret (.inr (.ret, ⟨[(2, AV.c (.v (.int .i64 i))), (3, AV.c (.v (.int .i64 15)))], [], 0⟩))) : Tree (A_rchk ⊕ (Ex × St)))).run = _
  by_cases g : toJ l i < 0
  · rw [goFn g, decide_eq_true g]; rfl
  · have := hlt g
    rw [goTn g, decide_eq_false g, goTa ⟨by omega, by omega⟩]
    unfold secA
    cases c : (b.getD (toJ l i).toNat (false, ())).1
    · rw [goTN rfl, goT (decP hp), goT (decP hp)]
      simp only [bne]
      cases (ofI p (toJ l i) == ofI p i) <;> rfl
    · rw [goFN rfl]; rfl
def μ_rchk : A_rchk → Nat := fun ⟨l, i, p, b⟩ => l.length - i.toNat
theorem step_rchk : ∀ a : A_rchk, I_rchk a → (∃ a', (T_rchk a).run = some (.inl a') ∧ I_rchk a' ∧ μ_rchk a' < μ_rchk a ∧ (G_rchk a').run = (G_rchk a).run) ∨ (∃ y, (T_rchk a).run = some (.inr y) ∧ (G_rchk a).run = some y ∧ ((∃ id, y.1 = .exit id) ∨ y.1 = .ret)) := by
  rintro ⟨l, i, p, b⟩ ⟨h1, h2, h3, rfl, h4, h5⟩
  simp only [T_rchk]
  have hbl := secs_len l
  by_cases hi : i < l.length
  · rw [goTd hi, goTa ⟨h1, by omega⟩, wrap64 (n := i + 1) (by omega) (by omega)]
    have hs : secA (secs l) (i.toNat : Nat) = ((secs l).getD i.toNat (false, ())).1 := by unfold secA; rw [ofToNat h1]
    have e : refBad l (secs l) p i.toNat = (!((secs l).getD i.toNat (false, ())).1 && jumpsB (opA l i.toNat) && (decide (toJ l i < 0) || secA (secs l) (toJ l i) || !(ofI p (toJ l i) == ofI p i))) := by
      unfold refBad; rw [hs, ofToNat h1]
    have next : refBad l (secs l) p i.toNat = false → I_rchk (l, i + 1, p, secs l) ∧ μ_rchk (l, i + 1, p, secs l) < μ_rchk (l, i, p, secs l) := fun hg =>
      ⟨⟨by omega, h2, h3, rfl, h4, all_succ h1 h5 hg⟩, by simp only [μ_rchk]; omega⟩
    cases c1 : ((secs l).getD i.toNat (false, ())).1 with
    | true =>
      left
      rw [c1] at e
      rw [goFN rfl]
      exact ⟨_, rfl, (next e).1, (next e).2, rfl⟩
    | false =>
      rw [c1] at e
      rw [goTN rfl, goTa ⟨h1, hi⟩]
      obtain ⟨_, _, _, _, k5⟩ := kn_facts _ _ _ _ _ (h4 i.toNat (by omega) (by rw [hs, c1]))
      change (_ || B_rcmp (l.getD i.toNat noIns).1 (l.getD i.toNat noIns).2.1 (l.getD i.toNat noIns).2.2.1 (l.getD i.toNat noIns).2.2.2.1 (l.getD i.toNat noIns).2.2.2.2.1) = jumpsB (opA l i.toNat) at k5
      obtain ⟨x1, x2, _⟩ := class5r (l.getD i.toNat noIns).1
      rw [x1, x2]
      have run := rcTail_run l (secs l) p i ⟨h1, hi⟩ h2 h3 (secs_len l)
      have done : jumpsB (opA l i.toNat) = true → (∃ a', (rcTail l (secs l) p i).run = some (.inl a') ∧ I_rchk a' ∧ μ_rchk a' < μ_rchk (l, i, p, secs l) ∧ (G_rchk a').run = (G_rchk (l, i, p, secs l)).run) ∨
          (∃ y, (rcTail l (secs l) p i).run = some (.inr y) ∧ (G_rchk (l, i, p, secs l)).run = some y ∧ ((∃ id, y.1 = .exit id) ∨ y.1 = .ret)) := fun hj => by
        rw [hj] at e
        rw [run]
        change refBad l (secs l) p i.toNat = (decide (toJ l i < 0) || secA (secs l) (toJ l i) || !(ofI p (toJ l i) == ofI p i)) at e
        rw [← e]
        cases hb : refBad l (secs l) p i.toNat with
        | true =>
          right
          refine ⟨_, rfl, ?_, .inr rfl⟩
          have hf : rcO l (secs l) p = some i.toNat := scan_hit h1 hi h5 hb
          simp only [G_rchk, rcG]
          rw [goT (by unfold rcIs; rw [hf]; rfl), show rcAt l (secs l) p = i.toNat by unfold rcAt; rw [hf]; rfl, ofToNat h1]; rfl
        | false =>
          left
          exact ⟨_, rfl, (next hb).1, (next hb).2, rfl⟩
      unfold rcTail at done
      cases c2 : ((l.getD i.toNat noIns).1 % BitVec.ofInt 8 8 == BitVec.ofInt 8 5) <;> cases c3 : ((l.getD i.toNat noIns).1 / BitVec.ofInt 8 16 == BitVec.ofInt 8 0) <;>
        cases c4 : B_rcmp (l.getD i.toNat noIns).1 (l.getD i.toNat noIns).2.1 (l.getD i.toNat noIns).2.2.1 (l.getD i.toNat noIns).2.2.2.1 (l.getD i.toNat noIns).2.2.2.2.1 <;> rw [c4] at k5 <;>
        (change (((l.getD i.toNat noIns).1 % BitVec.ofInt 8 8 == BitVec.ofInt 8 5 && (l.getD i.toNat noIns).1 / BitVec.ofInt 8 16 == BitVec.ofInt 8 0) || _) = _ at k5) <;> rw [c2, c3] at k5 <;>
        first
        | exact done k5.symm
        | (rw [goF rfl, goTa ⟨h1, hi⟩, goFN rfl]; exact done k5.symm)
        | (rw [goT rfl, goTN rfl, goTa ⟨h1, hi⟩, goFN rfl]; exact done k5.symm)
        | (rw [goT rfl, goFN rfl]; exact done k5.symm)
        | (left; rw [← k5] at e; rw [goF rfl, goTa ⟨h1, hi⟩, goTN rfl]; exact ⟨_, rfl, (next e).1, (next e).2, rfl⟩)
        | (left; rw [← k5] at e; rw [goT rfl, goTN rfl, goTa ⟨h1, hi⟩, goTN rfl]; exact ⟨_, rfl, (next e).1, (next e).2, rfl⟩)
  · right
    rw [goFd hi]
    refine ⟨_, rfl, ?_, .inl ⟨0, rfl⟩⟩
    have hf : rcO l (secs l) p = none := scan_end hi h5
    simp only [G_rchk, rcG]
    rw [goF (by unfold rcIs; rw [hf]; rfl)]; rfl
theorem lok_rchk : LOk Tryz.prog (lk L_rsbs) Tryz.f6.ntmps 0 20 LT_rchk c_rchk := lok_view (noL_ok2 _ _ _ _ _ _ _) (by kernel_rfl) e_rchk (by rintro ⟨⟨l, ⟨⟩, ⟨⟩, i, ⟨⟩⟩, ⟨p, b, ⟨⟩⟩⟩; exact ⟨(l, i, p, b), rfl⟩) T_rchk turn_rchk I_rchk G_rchk (by rintro ⟨l, i, p, b⟩; rfl) μ_rchk step_rchk
def ea_rchk : Slots → denAs [.c (.d insT)] := fun l => (l, ())
def eo_rchk : Slots → denObs [] := fun l => ()
noncomputable def E_rchk : Slots → Tree (AV × List Ob) := fun l => 
Tree.ite (decC (List.length l ≤ (140737488355328 : Nat))) (Tree.ite ((sbs l).snd.snd != (0 : Int)) (Tree.ret (AV.t [Part.one (Cell.v (Value.int IntKind.i64 (sbs l).snd.fst)), Part.one (Cell.v (Value.int IntKind.i64 (sbs l).snd.snd))], [])) (Tree.ite (decC (List.length l ≤ (140737488355328 : Nat))) (Tree.ite (decC ((0 : Int) ≤ (0 : Int) ∧ List.length l ≤ (1000000 : Nat) ∧ List.length (sbs l).fst ≤ (1000000 : Nat) ∧ secs l = secs l ∧ AllKnown l ∧ ∀ (j : Nat), (↑j : Int) < (0 : Int) → refBad l (secs l) (sbs l).fst j = false)) (Tree.ite (rcIs l (secs l) (sbs l).fst) (Tree.ret (AV.t [Part.one (Cell.v (Value.int IntKind.i64 (↑(rcAt l (secs l) (sbs l).fst) : Int))), Part.one (Cell.v (Value.int IntKind.i64 (15 : Int)))], [])) (Tree.ret (AV.t [Part.one (Cell.v (Value.int IntKind.i64 (0 : Int))), Part.one (Cell.v (Value.int IntKind.i64 (0 : Int)))], []))) Tree.fail) Tree.fail)) Tree.fail
noncomputable def F_rchk : denAs [.c (.d insT)] → denObs [] → Tree (AV × List Ob) := fun x y => match x, y with
  | (l, ()), () => ckP (l.length ≤ 140737488355328) (.ret (.t [.one (.v (.int .i64 (chk l).1)), .one (.v (.int .i64 (chk l).2))], []))
theorem ev_rchk : ∀ a, (evalFnL Tryz.prog (lk L_rsbs) 20 LT_rchk Tryz.f6 c_rchk [] (encAs [.c (.d insT)] (ea_rchk a)) (encOs [] (eo_rchk a))).run = (E_rchk a).run := by
  rintro l
  kernel_rfl
theorem fe_rchk : ∀ a y, (F_rchk (ea_rchk a) (eo_rchk a)).run = some y → (E_rchk a).run = some y := by
  rintro l y h
  obtain ⟨h1, h⟩ := ckP_run h
  rw [← h]
  change l.length ≤ 140737488355328 at h1
  dsimp only [E_rchk]
  change _ = (Tree.ret (AV.t [.one (.v (.int .i64 (chk l).1)), .one (.v (.int .i64 (chk l).2))], [])).run
  refine (goT (decP h1)).trans ?_
  by_cases hb : (sbs l).2.2 = 0
  · obtain ⟨g0, g1, g2, g3⟩ := sbs_zero hb
    have hfl := froms_len l (secs l)
    have hsl := subsL_len l (secs l)
    rw [g2, g3]
    refine (goF rfl).trans ((goT (decP h1)).trans ?_)
    refine (goT (decP ⟨Int.le_refl 0, by omega, by change (subsL l (secs l)).length ≤ 1000000; omega, rfl, good_known g1, fun j hj => by omega⟩)).trans ?_
    have hr : leadsI l (secs l) (subsL l (secs l)) = rcO l (secs l) (subsL l (secs l)) := leads_ref (by omega)
    rw [hr]
    cases hc : rcO l (secs l) (subsL l (secs l)) with
    | some k =>
      have e1 : rcIs l (secs l) (subsL l (secs l)) = true := by unfold rcIs; rw [hc]; rfl
      have e2 : rcAt l (secs l) (subsL l (secs l)) = k := by unfold rcAt; rw [hc]; rfl
      refine (goT e1).trans ?_
      change (Tree.ret (AV.t [.one (.v (.int .i64 (rcAt l (secs l) (subsL l (secs l))))), .one (.v (.int .i64 15))], [])).run = _
      rw [e2]
    | none =>
      have e1 : rcIs l (secs l) (subsL l (secs l)) = false := by unfold rcIs; rw [hc]; rfl
      exact goF e1
  · rw [sbs_bad hb]
    exact goTne hb
theorem ok_rchk : SummOk Kn Tryz.prog 6 (sumT [.dp insT] false [.c (.d insT)] [] F_rchk) := sumT_view tok_rsbs Tryz.checked.mixed Tryz.func6 (by kernel_rfl) (by rfl) 20 [] ea_rchk eo_rchk
  (by rintro ⟨l, ⟨⟩⟩ ⟨⟩; exact ⟨l, rfl, rfl⟩) LT_rchk 0 (by rintro ⟨⟩; rfl) lok_rchk E_rchk ev_rchk fe_rchk
noncomputable def L_rchk : List (Nat × Summ) := (6, (sumT [.dp insT] false [.c (.d insT)] [] F_rchk)) :: L_rsbs
theorem tok_rchk : TOk Kn Tryz.prog (lk L_rchk) := lk_cons ok_rchk tok_rsbs
end Go.Proofs.YtpocmhfgnpgikaaGreatDoor
