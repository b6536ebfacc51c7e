/-
  The contracts of what tells blocks, of what the laws of control flow know (written by our own gen_flb.py).
-/
import Derived.Test.YtdbnbijillmlcaaFlA
import Derived.Test.YtdbnbijillmlcaaFlT
namespace Go.Proofs.Ytdbnbijillmlcaa
open Go Go.Sy Go.Sz Go.In Go.Fl Go.Proofs.Ytdbnbijillmlcaa
set_option linter.unusedVariables false
set_option linter.unusedSimpArgs false
set_option linter.constructorNameAsVariable false
set_option maxRecDepth 100000

theorem ok_Back : SummOk Kn Try.prog 12 (sumE [.dp insT] false Try.prog (lk L_Rch) 30 Try.f12 (Try.f12.body.getD .skip) [(0, partsT)]) := sumE_ok tok_Rch Try.checked.mixed Try.func12 (by kernel_rfl) (by rfl) 30 [(0, partsT)]
noncomputable def L_Back : List (Nat × Summ) := (12, (sumE [.dp insT] false Try.prog (lk L_Rch) 30 Try.f12 (Try.f12.body.getD .skip) [(0, partsT)])) :: L_Rch
theorem tok_Back : TOk Kn Try.prog (lk L_Back) := lk_cons ok_Back tok_Rch

def ea_known1 : Unit → denAs [] := fun _ => ()
def eo_known1 : Unit → denObs [] := fun _ => ()
noncomputable def E_known1 : Unit → Tree (AV × List Ob) := fun _ => 
Tree.ite (decC ((1 : Nat) ≤ (1000 : Nat))) (Tree.ite (decC ((0 : Int) ≤ (0 : Int) ∧ (0 : Int) < (1 : Int))) (Tree.ite (decC ((0 : Nat) < (1 : Nat) ∧ (1 : Nat) ≤ (1000000 : Nat))) (Tree.ite (decC ((2 : Nat) ≤ (1000 : Nat))) (Tree.ret (AV.p (Part.one (Cell.v (Value.bool true))), [])) Tree.fail) Tree.fail) Tree.fail) Tree.fail
noncomputable def F_known1 : denAs [] → denObs [] → Tree (AV × List Ob) := fun x y => match x, y with
  | (), () => .ret (AV.b true, [])
theorem ev_known1 : ∀ a, (evalFnL Try.prog (lk L_Back) 40 noL Try.f5 (Try.f5.body.getD .skip) [] (encAs [] (ea_known1 a)) (encOs [] (eo_known1 a))).run = (E_known1 a).run := by
  rintro ⟨⟩
  kernel_rfl
theorem fe_known1 : ∀ a y, (F_known1 (ea_known1 a) (eo_known1 a)).run = some y → (E_known1 a).run = some y := by
  rintro _ y h
  rw [← h]
  dsimp only [E_known1]
  exact (goT (decP (by decide))).trans ((goT (decP (by decide))).trans ((goT (decP (by decide))).trans ((goT (decP (by decide))).trans rfl)))
theorem ok_known1 : SummOk Kn Try.prog 5 (sumT [] false [] [] F_known1) := sumT_view tok_Back Try.checked.mixed Try.func5 (by kernel_rfl) (by rfl) 40 [] ea_known1 eo_known1
  (by rintro ⟨⟩ ⟨⟩; exact ⟨(), rfl, rfl⟩) noL 0 (by rintro ⟨⟩; rfl) (noL_ok _ _ _ _ _ _) E_known1 ev_known1 fe_known1
noncomputable def L_known1 : List (Nat × Summ) := (5, (sumT [] false [] [] F_known1)) :: L_Back
theorem tok_known1 : TOk Kn Try.prog (lk L_known1) := lk_cons ok_known1 tok_Back

noncomputable def begL (l : Slots) : Bools := marks2 l (reachL l) 0 (marks1 (subsL l (secs l)) (List.replicate (l.length + 1) (false, ())))
noncomputable def blocksL (l : Slots) : Parts := (bfold (reachL l) (begL l) (secs l) 0 l.length ([], false)).1
noncomputable def blocksT (l : Slots) : Tree (AV × List Ob) := .ite ((chk l).2 == 0) (.ret (.t [.one (.h 0), .one (.v (.int .i64 0))], [.row partsT (blocksL l)])) (errT (chk l).2 partsT)
theorem start_ok {l : Slots} (h : goodL l) : ∀ x ∈ ([((0 : Int), ())] : Ints), goodK l x.1 := fun x hx => by
  have h0 := (chk_fine h.1).1
  rw [List.mem_singleton] at hx
  subst hx
  exact ⟨by decide, by show (0 : Int) < _; omega, rfl⟩
theorem reach_ok {l : Slots} (h : goodL l) : (reachL l).length = l.length ∧ ∀ k : Nat, ((reachL l).getD k (false, ())).1 = true → goodK l k :=
  dfs_good (way_ok h) _ _ _ (by simp) (start_ok h) fun k hk => by
    rw [List.getD_eq_getElem?_getD, List.getElem?_replicate] at hk
    split at hk <;> cases hk
theorem bstep_len (r b s : Bools) {o : Parts} {x : Bool} (k : Nat) (h : x = true → 0 < o.length) : (bstep r b s (o, x) k).1.length ≤ o.length + 1 ∧ ((bstep r b s (o, x) k).2 = true → 0 < (bstep r b s (o, x) k).1.length) := by
  have hs : ∀ t, (setTo o t).length = o.length := fun t => List.length_set
  unfold bstep
  cases bitA s k
  · cases bitA r k
    · exact ⟨Nat.le_succ _, fun h => by cases h⟩
    · cases x
      · exact ⟨by simp, fun _ => by simp⟩
      · cases bitA b k
        · refine ⟨?_, fun _ => ?_⟩
          · show (setTo o _).length ≤ _
            rw [hs]; omega
          · show 0 < (setTo o _).length
            rw [hs]; exact h rfl
        · exact ⟨by simp, fun _ => by simp⟩
  · cases x
    · exact ⟨Nat.le_succ _, fun h => by cases h⟩
    · cases bitA r (k - 1)
      · exact ⟨Nat.le_succ _, fun _ => h rfl⟩
      · refine ⟨?_, fun _ => ?_⟩
        · show (setTo o _).length ≤ _
          rw [hs]; omega
        · show 0 < (setTo o _).length
          rw [hs]; exact h rfl
theorem eq_of_fst {x y : Bool × Unit} (h : x = y) : (x.1 == y.1) = true := by rw [h]; simp
theorem ne_of_fst {x y : Bool × Unit} (h : x ≠ y) : (x.1 == y.1) = false := by
  obtain ⟨x, _⟩ := x
  obtain ⟨y, _⟩ := y
  cases x <;> cases y <;> first | rfl | exact absurd rfl h
theorem bools_no {a b : Bools} {k : Nat} (h : a.getD k (false, ()) ≠ b.getD k (false, ())) : decide (a = b) = false := decide_eq_false fun e => h (by rw [e])
theorem bools_yes {a b : Bools} (h : a.length = b.length) (h2 : ∀ j : Nat, (j : Int) < a.length → a.getD j (false, ()) = b.getD j (false, ())) : decide (a = b) = true := decide_eq_true (ext_getD (false, ()) h fun j hj => h2 j (by omega))
noncomputable abbrev c_blk : Code := Try.f7.body.getD .skip
def p_blk1 : List Nat := [0, 1, 0, 1, 1, 1, 1, 1]
def sh_blk1 : Shape := ⟨[(0, .c (.d insT)), (4, .c (.h 0)), (6, .c (.h 1)), (36, .c (.h 2)), (37, .c (.i .i64)), (38, .c (.i .i64))], [.row boolsT, .row boolsT, .row partsT]⟩
@[reducible] def A_blk1 : Type := Slots × Bools × Bools × Parts × Int × Int
def e_blk1 : A_blk1 → sh_blk1.den := fun ⟨l, r, b, p, n, i⟩ => ((l, (), (), (), n, i, ()), (r, b, p, ()))
def v_blk1 : sh_blk1.den → A_blk1 := fun d => match d with
  | ((l, (), (), (), n, i, ()), (r, b, p, ())) => (l, r, b, p, n, i)
def I_blk1 : A_blk1 → Prop := fun ⟨l, r, b, p, n, i⟩ => 0 ≤ i ∧ n = p.length ∧ n ≤ 1000 ∧ ∀ j, j < p.length → 0 ≤ (partOf p j).1 ∧ (partOf p j).1 < b.length
noncomputable def G_blk1 : A_blk1 → Tree (Ex × St) := fun ⟨l, r, b, p, n, i⟩ => .ret (.exit 0, ⟨[(0, .p (.one (.d insT l))), (4, .p (.one (.h 0))), (6, .p (.one (.h 1)))], [(0, .row boolsT (r)), (1, .row boolsT (marks1 (p.drop i.toNat) b))], 2⟩)
noncomputable def orc_blk1 : Orc := ⟨sh_blk1, [(36, partsT)], [0, 4, 6], [], fun d => ckP (I_blk1 (v_blk1 d)) (G_blk1 (v_blk1 d))⟩
def p_blk2 : List Nat := [0, 1, 0, 1, 1, 1, 1, 1, 1]
def sh_blk2 : Shape := ⟨[(0, .c (.d insT)), (4, .c (.h 0)), (6, .c (.h 1)), (47, .c (.d insT)), (48, .c (.i .i64)), (49, .c (.i .i64))], [.row boolsT, .row boolsT]⟩
@[reducible] def A_blk2 : Type := Slots × Bools × Bools × Slots × Int × Int
def e_blk2 : A_blk2 → sh_blk2.den := fun ⟨l, r, b, l2, n, i⟩ => ((l, (), (), l2, n, i, ()), (r, b, ()))
def v_blk2 : sh_blk2.den → A_blk2 := fun d => match d with
  | ((l, (), (), l2, n, i, ()), (r, b, ())) => (l, r, b, l2, n, i)
def I_blk2 : A_blk2 → Prop := fun ⟨l, r, b, l2, n, i⟩ => 0 ≤ i ∧ l2 = l ∧ n = l.length ∧ goodL l ∧ r = reachL l ∧ b.length = l.length + 1
noncomputable def G_blk2 : A_blk2 → Tree (Ex × St) := fun ⟨l, r, b, l2, n, i⟩ => .ret (.exit 2, ⟨[(0, .p (.one (.d insT l))), (4, .p (.one (.h 0))), (6, .p (.one (.h 1)))], [(0, .row boolsT (r)), (1, .row boolsT (marks2 l r i.toNat b))], 2⟩)
noncomputable def orc_blk2 : Orc := ⟨sh_blk2, [], [0, 4, 6], [], fun d => ckP (I_blk2 (v_blk2 d)) (G_blk2 (v_blk2 d))⟩
def p_blk3 : List Nat := [0, 1, 0, 1, 1, 1, 1, 1, 1, 1, 1, 1, 1]
def sh_blk3 : Shape := ⟨[(4, .c (.h 0)), (6, .c (.h 1)), (14, .c (.h 2)), (15, .c .b), (16, .c (.h 3)), (88, .c (.i .i64)), (89, .c (.i .i64))], [.row boolsT, .row boolsT, .row partsT, .row boolsT]⟩
@[reducible] def A_blk3 : Type := Bools × Bools × Parts × Bool × Bools × Int × Int
def e_blk3 : A_blk3 → sh_blk3.den := fun ⟨r, b, o, x, s, n, i⟩ => (((), (), (), x, (), n, i, ()), (r, b, o, s, ()))
def v_blk3 : sh_blk3.den → A_blk3 := fun d => match d with
  | (((), (), (), x, (), n, i, ()), (r, b, o, s, ())) => (r, b, o, x, s, n, i)
def I_blk3 : A_blk3 → Prop := fun ⟨r, b, o, x, s, n, i⟩ => 0 ≤ i ∧ n ≤ 1000 ∧ (r.length : Int) = n ∧ (b.length : Int) = n + 1 ∧ (s.length : Int) = n ∧ (s.getD 0 (false, ())).1 = false ∧ (o.length : Int) ≤ i ∧ (x = true → 0 < o.length)
noncomputable def G_blk3 : A_blk3 → Tree (Ex × St) := fun ⟨r, b, o, x, s, n, i⟩ => .ret (.exit 4, ⟨[(14, .p (.one (.h 0)))], [(0, .row partsT ((bfold r b s i.toNat n.toNat (o, x)).1))], 1⟩)
noncomputable def orc_blk3 : Orc := ⟨sh_blk3, [(14, partsT)], [14], [], fun d => ckP (I_blk3 (v_blk3 d)) (G_blk3 (v_blk3 d))⟩
noncomputable def LT_blk : LT := oneL p_blk1 orc_blk1 (oneL p_blk2 orc_blk2 (oneL p_blk3 orc_blk3 (noL)))
noncomputable def T_blk3 : Bools × Bools × Parts × Bool × Bools × Int × Int → Tree (A_blk3 ⊕ (Ex × St)) := fun ⟨r, b, o, x, s, n, i⟩ => 
Tree.ite (decide (i < n)) (Tree.ite (decide ((0 : Int) ≤ i) && decide (i < (↑(List.length s) : Int))) (Tree.ite (List.getD s i.toNat (false, ())).fst (Tree.ite x (Tree.ite (decide ((0 : Int) ≤ IntKind.i64.wrap (i - (1 : Int))) && decide (IntKind.i64.wrap (i - (1 : Int)) < (↑(List.length r) : Int))) (Tree.ite (List.getD r (IntKind.i64.wrap (i - (1 : Int))).toNat (false, ())).fst (Tree.ite (decide ((0 : Int) ≤ IntKind.i64.wrap ((↑(List.length o) : Int) - (1 : Int))) && decide (IntKind.i64.wrap ((↑(List.length o) : Int) - (1 : Int)) < (↑(List.length o) : Int))) (Tree.ret (Sum.inl (r, b, List.set o (IntKind.i64.wrap ((↑(List.length o) : Int) - (1 : Int))).toNat ((List.getD o (IntKind.i64.wrap ((↑(List.length o) : Int) - (1 : Int))).toNat ((0 : Int), (0 : Int), ())).fst, IntKind.i64.wrap (i + (1 : Int)), (List.getD o (IntKind.i64.wrap ((↑(List.length o) : Int) - (1 : Int))).toNat ((0 : Int), (0 : Int), ())).snd.snd), x, s, n, IntKind.i64.wrap (i + (1 : Int))))) Tree.fail) (Tree.ret (Sum.inl (r, b, o, x, s, n, IntKind.i64.wrap (i + (1 : Int)))))) Tree.fail) (Tree.ret (Sum.inl (r, b, o, x, s, n, IntKind.i64.wrap (i + (1 : Int)))))) (Tree.ite (decide ((0 : Int) ≤ i) && decide (i < (↑(List.length r) : Int))) (Tree.ite (!(List.getD r i.toNat (false, ())).fst) (Tree.ret (Sum.inl (r, b, o, false, s, n, IntKind.i64.wrap (i + (1 : Int))))) (Tree.ite (!!x) (Tree.ite (decide ((0 : Int) ≤ i) && decide (i < (↑(List.length b) : Int))) (Tree.ite (List.getD b i.toNat (false, ())).fst (Tree.ite (bytesOk (List.length o + (1 : Nat)) (16 : Nat) && (List.length o + (1 : Nat)).ble (140737488355328 : Nat)) (Tree.ret (Sum.inl (r, b, o ++ [(i, IntKind.i64.wrap (i + (1 : Int)), ())], true, s, n, IntKind.i64.wrap (i + (1 : Int))))) Tree.fail) (Tree.ite (decide ((0 : Int) ≤ IntKind.i64.wrap ((↑(List.length o) : Int) - (1 : Int))) && decide (IntKind.i64.wrap ((↑(List.length o) : Int) - (1 : Int)) < (↑(List.length o) : Int))) (Tree.ret (Sum.inl (r, b, List.set o (IntKind.i64.wrap ((↑(List.length o) : Int) - (1 : Int))).toNat ((List.getD o (IntKind.i64.wrap ((↑(List.length o) : Int) - (1 : Int))).toNat ((0 : Int), (0 : Int), ())).fst, IntKind.i64.wrap (i + (1 : Int)), (List.getD o (IntKind.i64.wrap ((↑(List.length o) : Int) - (1 : Int))).toNat ((0 : Int), (0 : Int), ())).snd.snd), x, s, n, IntKind.i64.wrap (i + (1 : Int))))) Tree.fail)) Tree.fail) (Tree.ite (bytesOk (List.length o + (1 : Nat)) (16 : Nat) && (List.length o + (1 : Nat)).ble (140737488355328 : Nat)) (Tree.ret (Sum.inl (r, b, o ++ [(i, IntKind.i64.wrap (i + (1 : Int)), ())], true, s, n, IntKind.i64.wrap (i + (1 : Int))))) Tree.fail))) Tree.fail)) Tree.fail) (Tree.ret (Sum.inr (Ex.exit (4 : Nat), { env := [((14 : Nat), AV.p (Part.one (Cell.h (0 : Nat))))], hp := [((0 : Nat), Ob.row partsT o)], nx := (1 : Nat) })))
theorem turn_blk3 : ∀ a : A_blk3, (turnT 0 orc_blk3 (evalCode Try.prog (lk L_known1) Try.f7.ntmps 0 30 LT_blk (bodyAt c_blk p_blk3) false (0 :: p_blk3)) (sh_blk3.enc (e_blk3 a))).run = ((T_blk3 a).bind fun s => .ret (turnV sh_blk3 e_blk3 s)).run := by
  rintro ⟨r, b, o, x, s, n, i⟩
  kernel_rfl

def μ_blk3 : A_blk3 → Nat := fun ⟨r, b, o, x, s, n, i⟩ => (n - i).toNat
theorem step_blk3 : ∀ a : A_blk3, I_blk3 a → (∃ a', (T_blk3 a).run = some (.inl a') ∧ I_blk3 a' ∧ μ_blk3 a' < μ_blk3 a ∧ (G_blk3 a').run = (G_blk3 a).run) ∨ (∃ y, (T_blk3 a).run = some (.inr y) ∧ (G_blk3 a).run = some y ∧ ((∃ id, y.1 = .exit id) ∨ y.1 = .ret)) := by
  rintro ⟨r, b, o, x, s, n, i⟩ ⟨h1, h2, h3, h4, h5, h6, h7, h8⟩
  simp only [T_blk3]
  by_cases hi : i < n
  · left
    have hup := bfold_up (r := r) (b := b) (s := s) (i := i.toNat) (n := n.toNat) (by omega) (o, x)
    obtain ⟨l1, l2⟩ := bstep_len r b s (o := o) (x := x) i.toNat h8
    have fin : ∀ T : Tree (A_blk3 ⊕ (Ex × St)), T.run = some (.inl (r, b, (bstep r b s (o, x) i.toNat).1, (bstep r b s (o, x) i.toNat).2, s, n, i + 1)) → (∃ a', T.run = some (.inl a') ∧ I_blk3 a' ∧ μ_blk3 a' < μ_blk3 (r, b, o, x, s, n, i) ∧ (G_blk3 a').run = (G_blk3 (r, b, o, x, s, n, i)).run) := fun T hT => by
      refine ⟨_, hT, ⟨by omega, h2, h3, h4, h5, h6, by omega, l2⟩, by simp only [μ_blk3]; omega, ?_⟩
      simp only [G_blk3, Tree.run]
      rw [hup, toNat_succ h1]
    have hi2 : ((i.toNat : Nat) : Int) = i := by omega
    rw [goTd hi, goTa ⟨h1, by omega⟩, wrap64 (n := i + 1) (by omega) (by omega)]
    have hb : bstep r b s (o, x) i.toNat = bif (s.getD i.toNat (false, ())).1 then (bif x && (r.getD (i.toNat - 1) (false, ())).1 then (setTo o (i + 1), x) else (o, x))
        else bif !(r.getD i.toNat (false, ())).1 then (o, false) else bif !x || (b.getD i.toNat (false, ())).1 then (o ++ [(i, i + 1, ())], true) else (setTo o (i + 1), x) := by
      unfold bstep bitA; rw [hi2]
    rw [hb] at fin
    cases c1 : (s.getD i.toNat (false, ())).1 with
    | true =>
      rw [c1] at fin
      rw [goT rfl]
      cases x with
      | false => exact fin _ (goF rfl)
      | true =>
        have hi0 : i ≠ 0 := fun e => by
          rw [e] at c1
          exact absurd (c1.symm.trans h6) (by decide)
        have hlen := h8 rfl
        rw [goT rfl, wrap64 (n := i - 1) (by omega) (by omega), goTa ⟨by omega, by omega⟩, show (i - 1).toNat = i.toNat - 1 by omega]
        cases c2 : (r.getD (i.toNat - 1) (false, ())).1 with
        | false => rw [c2] at fin; exact fin _ (goF rfl)
        | true =>
          rw [c2] at fin
          rw [goT rfl, wrap64 (n := (o.length : Int) - 1) (by omega) (by omega), goTa ⟨by omega, by omega⟩, show ((o.length : Int) - 1).toNat = o.length - 1 by omega]
          exact fin _ rfl
    | false =>
      rw [c1] at fin
      rw [goF rfl, goTa ⟨h1, by omega⟩]
      cases c2 : (r.getD i.toNat (false, ())).1 with
      | false => rw [c2] at fin; exact fin _ (goT rfl)
      | true =>
        rw [c2] at fin
        rw [goF (show (!true) = false from rfl)]
        cases x with
        | false =>
          rw [goF (show (!!false) = false from rfl), goTb ⟨by omega, by omega⟩]
          exact fin _ rfl
        | true =>
          have hlen := h8 rfl
          rw [goT (show (!!true) = true from rfl), goTa ⟨h1, by omega⟩]
          cases c3 : (b.getD i.toNat (false, ())).1 with
          | true =>
            rw [c3] at fin
            rw [goT rfl, goTb ⟨by omega, by omega⟩]
            exact fin _ rfl
          | false =>
            rw [c3] at fin
            rw [goF rfl, wrap64 (n := (o.length : Int) - 1) (by omega) (by omega), goTa ⟨by omega, by omega⟩, show ((o.length : Int) - 1).toNat = o.length - 1 by omega]
            exact fin _ rfl
  · right
    rw [goFd hi]
    refine ⟨_, rfl, ?_, .inl ⟨4, rfl⟩⟩
    simp only [G_blk3, Tree.run]
    rw [bfold_end (by omega)]
noncomputable def T_blk2 : Slots × Bools × Bools × Slots × Int × Int → Tree (A_blk2 ⊕ (Ex × St)) := fun ⟨l, r, b, l2, n, i⟩ => 
Tree.ite (decide (i < n)) (Tree.ite (decide ((0 : Int) ≤ i) && decide (i < (↑(List.length l2) : Int))) (Tree.ite (decide ((0 : Int) ≤ i) && decide (i < (↑(List.length r) : Int))) (Tree.ite (!!(List.getD r i.toNat (false, ())).fst) (Tree.ite (!jmpB (List.getD l2 i.toNat noIns).fst) (Tree.ite ((List.getD l2 i.toNat noIns).fst != BitVec.ofInt (8 : Nat) (149 : Int)) (Tree.ret (Sum.inl (l, r, b, l2, n, IntKind.i64.wrap (i + (1 : Int))))) (Tree.ite (decide ((0 : Int) ≤ IntKind.i64.wrap (i + (1 : Int))) && decide (IntKind.i64.wrap (i + (1 : Int)) < (↑(List.length b) : Int))) (Tree.ite ((List.getD l2 i.toNat noIns).fst != BitVec.ofInt (8 : Nat) (149 : Int)) (Tree.ite (decide ((0 : Int) ≤ IntKind.i64.wrap (IntKind.i64.wrap (i + (1 : Int)) + IntKind.i64.wrap (List.getD l2 i.toNat noIns).snd.snd.snd.fst)) && decide (IntKind.i64.wrap (IntKind.i64.wrap (i + (1 : Int)) + IntKind.i64.wrap (List.getD l2 i.toNat noIns).snd.snd.snd.fst) < (↑(List.set b (IntKind.i64.wrap (i + (1 : Int))).toNat (true, (List.getD b (IntKind.i64.wrap (i + (1 : Int))).toNat (false, ())).snd)).length : Int))) (Tree.ret (Sum.inl (l, r, (List.set b (IntKind.i64.wrap (i + (1 : Int))).toNat (true, (List.getD b (IntKind.i64.wrap (i + (1 : Int))).toNat (false, ())).snd)).set (IntKind.i64.wrap (IntKind.i64.wrap (i + (1 : Int)) + IntKind.i64.wrap (List.getD l2 i.toNat noIns).snd.snd.snd.fst)).toNat (true, ((List.set b (IntKind.i64.wrap (i + (1 : Int))).toNat (true, (List.getD b (IntKind.i64.wrap (i + (1 : Int))).toNat (false, ())).snd)).getD (IntKind.i64.wrap (IntKind.i64.wrap (i + (1 : Int)) + IntKind.i64.wrap (List.getD l2 i.toNat noIns).snd.snd.snd.fst)).toNat (false, ())).snd), l2, n, IntKind.i64.wrap (i + (1 : Int))))) Tree.fail) (Tree.ret (Sum.inl (l, r, List.set b (IntKind.i64.wrap (i + (1 : Int))).toNat (true, (List.getD b (IntKind.i64.wrap (i + (1 : Int))).toNat (false, ())).snd), l2, n, IntKind.i64.wrap (i + (1 : Int)))))) Tree.fail)) (Tree.ite (decide ((0 : Int) ≤ IntKind.i64.wrap (i + (1 : Int))) && decide (IntKind.i64.wrap (i + (1 : Int)) < (↑(List.length b) : Int))) (Tree.ite ((List.getD l2 i.toNat noIns).fst != BitVec.ofInt (8 : Nat) (149 : Int)) (Tree.ite (decide ((0 : Int) ≤ IntKind.i64.wrap (IntKind.i64.wrap (i + (1 : Int)) + IntKind.i64.wrap (List.getD l2 i.toNat noIns).snd.snd.snd.fst)) && decide (IntKind.i64.wrap (IntKind.i64.wrap (i + (1 : Int)) + IntKind.i64.wrap (List.getD l2 i.toNat noIns).snd.snd.snd.fst) < (↑(List.set b (IntKind.i64.wrap (i + (1 : Int))).toNat (true, (List.getD b (IntKind.i64.wrap (i + (1 : Int))).toNat (false, ())).snd)).length : Int))) (Tree.ret (Sum.inl (l, r, (List.set b (IntKind.i64.wrap (i + (1 : Int))).toNat (true, (List.getD b (IntKind.i64.wrap (i + (1 : Int))).toNat (false, ())).snd)).set (IntKind.i64.wrap (IntKind.i64.wrap (i + (1 : Int)) + IntKind.i64.wrap (List.getD l2 i.toNat noIns).snd.snd.snd.fst)).toNat (true, ((List.set b (IntKind.i64.wrap (i + (1 : Int))).toNat (true, (List.getD b (IntKind.i64.wrap (i + (1 : Int))).toNat (false, ())).snd)).getD (IntKind.i64.wrap (IntKind.i64.wrap (i + (1 : Int)) + IntKind.i64.wrap (List.getD l2 i.toNat noIns).snd.snd.snd.fst)).toNat (false, ())).snd), l2, n, IntKind.i64.wrap (i + (1 : Int))))) Tree.fail) (Tree.ret (Sum.inl (l, r, List.set b (IntKind.i64.wrap (i + (1 : Int))).toNat (true, (List.getD b (IntKind.i64.wrap (i + (1 : Int))).toNat (false, ())).snd), l2, n, IntKind.i64.wrap (i + (1 : Int)))))) Tree.fail)) (Tree.ret (Sum.inl (l, r, b, l2, n, IntKind.i64.wrap (i + (1 : Int)))))) Tree.fail) Tree.fail) (Tree.ret (Sum.inr (Ex.exit (2 : Nat), { env := [((0 : Nat), AV.p (Part.one (Cell.d insT l))), ((4 : Nat), AV.p (Part.one (Cell.h (0 : Nat)))), ((6 : Nat), AV.p (Part.one (Cell.h (1 : Nat))))], hp := [((0 : Nat), Ob.row boolsT r), ((1 : Nat), Ob.row boolsT b)], nx := (2 : Nat) })))
theorem turn_blk2 : ∀ a : A_blk2, (turnT 0 orc_blk2 (evalCode Try.prog (lk L_known1) Try.f7.ntmps 0 30 LT_blk (bodyAt c_blk p_blk2) false (0 :: p_blk2)) (sh_blk2.enc (e_blk2 a))).run = ((T_blk2 a).bind fun s => .ret (turnV sh_blk2 e_blk2 s)).run := by
  rintro ⟨l, r, b, l2, n, i⟩
  kernel_rfl

def μ_blk2 : A_blk2 → Nat := fun ⟨l, r, b, l2, n, i⟩ => (n - i).toNat
theorem step_blk2 : ∀ a : A_blk2, I_blk2 a → (∃ a', (T_blk2 a).run = some (.inl a') ∧ I_blk2 a' ∧ μ_blk2 a' < μ_blk2 a ∧ (G_blk2 a').run = (G_blk2 a).run) ∨ (∃ y, (T_blk2 a).run = some (.inr y) ∧ (G_blk2 a).run = some y ∧ ((∃ id, y.1 = .exit id) ∨ y.1 = .ret)) := by
  rintro ⟨l, r, b, l2, n, i⟩ ⟨h1, rfl, rfl, h4, rfl, h6⟩
  simp only [T_blk2]
  obtain ⟨hr1, hr2⟩ := reach_ok h4
  have hl := h4.2
  by_cases hi : i < l2.length
  · left
    have hup := marks2_up (l := l2) (r := reachL l2) (b := b) (i := i.toNat) (by omega)
    have fin : ∀ T : Tree (A_blk2 ⊕ (Ex × St)), T.run = some (.inl (l2, reachL l2, mark2 l2 (reachL l2) b i.toNat, l2, (l2.length : Int), i + 1)) → (∃ a', T.run = some (.inl a') ∧ I_blk2 a' ∧ μ_blk2 a' < μ_blk2 (l2, reachL l2, b, l2, (l2.length : Int), i) ∧ (G_blk2 a').run = (G_blk2 (l2, reachL l2, b, l2, (l2.length : Int), i)).run) := fun T hT => by
      refine ⟨_, hT, ⟨by omega, rfl, rfl, h4, rfl, by rw [mark2_len]; exact h6⟩, by simp only [μ_blk2]; omega, ?_⟩
      simp only [G_blk2, Tree.run]
      rw [hup, toNat_succ h1]
    rw [goTd hi, goTa ⟨h1, hi⟩, goTa ⟨h1, by omega⟩, wrap64 (n := i + 1) (by omega) (by omega)]
    have hm : mark2 l2 (reachL l2) b i.toNat = bif bitA (reachL l2) i.toNat && (jmpB (opA l2 i.toNat) || opA l2 i.toNat == BitVec.ofInt 8 149) then (bif opA l2 i.toNat == BitVec.ofInt 8 149 then b.set (i.toNat + 1) (true, ()) else (b.set (i.toNat + 1) (true, ())).set (jumpI l2 i.toNat).toNat (true, ())) else b := rfl
    rw [show ((i.toNat : Nat) : Int) = i by omega] at hm
    have e1 : (i + 1).toNat = i.toNat + 1 := by omega
    cases c : ((reachL l2).getD i.toNat (false, ())).1 with
    | false =>
      have e : mark2 l2 (reachL l2) b i.toNat = b := by rw [hm, show bitA (reachL l2) i.toNat = false from c]; rfl
      rw [e] at fin
      exact fin _ (goF rfl)
    | true =>
      obtain ⟨k1, k2, k3⟩ := hr2 i.toNat c
      rw [goT (show (!!true) = true from rfl)]
      rw [show bitA (reachL l2) i.toNat = true from c, Bool.true_and] at hm
      cases cj : jmpB (l2.getD i.toNat noIns).1 with
      | false =>
        rw [show jmpB (opA l2 i.toNat) = false from cj, Bool.false_or] at hm
        rw [goT (show (!false) = true from rfl)]
        cases c9 : (l2.getD i.toNat noIns).1 == BitVec.ofInt 8 149 with
        | false =>
          rw [show (opA l2 i.toNat == BitVec.ofInt 8 149) = false from c9] at hm
          rw [hm] at fin
          exact fin _ (goT (by simp only [bne]; rw [c9]; rfl))
        | true =>
          rw [show (opA l2 i.toNat == BitVec.ofInt 8 149) = true from c9] at hm
          rw [hm] at fin
          rw [goF (by simp only [bne]; rw [c9]; rfl), goTa ⟨by omega, by omega⟩, goF (by simp only [bne]; rw [c9]; rfl), e1]
          exact fin _ rfl
      | true =>
        have c9 : ((l2.getD i.toNat noIns).1 == BitVec.ofInt 8 149) = false := by
          have hx : ∀ o : BitVec 8, jmpB o = true → (o == BitVec.ofInt 8 149) = false := by decide +kernel
          exact hx _ cj
        obtain ⟨p0, _, _, _, p4, _⟩ := place_facts h4 (k := i.toNat) (by omega) k3
        obtain ⟨j1, j2, _⟩ := p4 ((known_jumps p0).symm.trans cj)
        rw [show ((i.toNat : Nat) : Int) = i by omega] at j1 j2
        rw [show jmpB (opA l2 i.toNat) = true from cj, show (opA l2 i.toNat == BitVec.ofInt 8 149) = false from c9] at hm
        have ej : IntKind.i64.wrap (i + 1 + IntKind.i64.wrap (l2.getD i.toNat noIns).2.2.2.1) = jumpI l2 i := by
          unfold jumpI goI
          rw [wrap64 (n := i + 1) (by omega) (by omega)]
        rw [hm] at fin
        rw [goF (show (!true) = false from rfl), goTa ⟨by omega, by omega⟩, goT (by simp only [bne]; rw [c9]; rfl), ej, goTa ⟨j1, by rw [List.length_set]; omega⟩, e1]
        exact fin _ rfl
  · right
    rw [goFd hi]
    refine ⟨_, rfl, ?_, .inl ⟨2, rfl⟩⟩
    simp only [G_blk2, Tree.run]
    rw [marks2_end (by omega)]
noncomputable def T_blk1 : Slots × Bools × Bools × Parts × Int × Int → Tree (A_blk1 ⊕ (Ex × St)) := fun ⟨l, r, b, p, n, i⟩ => 
Tree.ite (decide (i < n)) (Tree.ite (decide ((0 : Int) ≤ i) && decide (i < (↑(List.length p) : Int))) (Tree.ite (decide ((0 : Int) ≤ (List.getD p i.toNat ((0 : Int), (0 : Int), ())).fst) && decide ((List.getD p i.toNat ((0 : Int), (0 : Int), ())).fst < (↑(List.length b) : Int))) (Tree.ret (Sum.inl (l, r, List.set b (Int.toNat (List.getD p i.toNat ((0 : Int), (0 : Int), ())).fst) (true, (List.getD b (Int.toNat (List.getD p i.toNat ((0 : Int), (0 : Int), ())).fst) (false, ())).snd), p, n, IntKind.i64.wrap (i + (1 : Int))))) Tree.fail) Tree.fail) (Tree.ret (Sum.inr (Ex.exit (0 : Nat), { env := [((0 : Nat), AV.p (Part.one (Cell.d insT l))), ((4 : Nat), AV.p (Part.one (Cell.h (0 : Nat)))), ((6 : Nat), AV.p (Part.one (Cell.h (1 : Nat))))], hp := [((0 : Nat), Ob.row boolsT r), ((1 : Nat), Ob.row boolsT b)], nx := (2 : Nat) })))
theorem turn_blk1 : ∀ a : A_blk1, (turnT 0 orc_blk1 (evalCode Try.prog (lk L_known1) Try.f7.ntmps 0 30 LT_blk (bodyAt c_blk p_blk1) false (0 :: p_blk1)) (sh_blk1.enc (e_blk1 a))).run = ((T_blk1 a).bind fun s => .ret (turnV sh_blk1 e_blk1 s)).run := by
  rintro ⟨l, r, b, p, n, i⟩
  kernel_rfl

def μ_blk1 : A_blk1 → Nat := fun ⟨l, r, b, p, n, i⟩ => (n - i).toNat
theorem step_blk1 : ∀ a : A_blk1, I_blk1 a → (∃ a', (T_blk1 a).run = some (.inl a') ∧ I_blk1 a' ∧ μ_blk1 a' < μ_blk1 a ∧ (G_blk1 a').run = (G_blk1 a).run) ∨ (∃ y, (T_blk1 a).run = some (.inr y) ∧ (G_blk1 a).run = some y ∧ ((∃ id, y.1 = .exit id) ∨ y.1 = .ret)) := by
  rintro ⟨l, r, b, p, n, i⟩ ⟨h1, rfl, h3, h4⟩
  simp only [T_blk1]
  by_cases hi : i < p.length
  · left
    have q := h4 i.toNat (by omega)
    rw [goTd hi, goTa ⟨h1, hi⟩, goTa q, wrap64 (n := i + 1) (by omega) (by omega)]
    refine ⟨_, rfl, ⟨by omega, rfl, h3, fun j hj => ?_⟩, by simp only [μ_blk1]; omega, ?_⟩
    · rw [List.length_set]; exact h4 j hj
    · simp only [G_blk1, Tree.run]
      rw [toNat_succ h1, drop_cons (l := p) (i := i.toNat) (by omega) (0, 0, ())]; rfl
  · right
    rw [goFd hi]
    refine ⟨_, rfl, ?_, .inl ⟨0, rfl⟩⟩
    simp only [G_blk1, Tree.run]
    rw [drop_end (by omega)]; rfl
theorem lok_blk : LOk Try.prog (lk L_known1) Try.f7.ntmps 0 30 LT_blk c_blk := lok_view (lok_view (lok_view (noL_ok2 _ _ _ _ _ _ _) (by kernel_rfl) e_blk3 (by rintro ⟨⟨⟨⟩, ⟨⟩, ⟨⟩, x, ⟨⟩, n, i, ⟨⟩⟩, ⟨r, b, o, s, ⟨⟩⟩⟩; exact ⟨(r, b, o, x, s, n, i), rfl⟩) T_blk3 turn_blk3 I_blk3 G_blk3 (by rintro ⟨r, b, o, x, s, n, i⟩; rfl) μ_blk3 step_blk3) (by kernel_rfl) e_blk2 (by rintro ⟨⟨l, ⟨⟩, ⟨⟩, l2, n, i, ⟨⟩⟩, ⟨r, b, ⟨⟩⟩⟩; exact ⟨(l, r, b, l2, n, i), rfl⟩) T_blk2 turn_blk2 I_blk2 G_blk2 (by rintro ⟨l, r, b, l2, n, i⟩; rfl) μ_blk2 step_blk2) (by kernel_rfl) e_blk1 (by rintro ⟨⟨l, ⟨⟩, ⟨⟩, ⟨⟩, n, i, ⟨⟩⟩, ⟨r, b, p, ⟨⟩⟩⟩; exact ⟨(l, r, b, p, n, i), rfl⟩) T_blk1 turn_blk1 I_blk1 G_blk1 (by rintro ⟨l, r, b, p, n, i⟩; rfl) μ_blk1 step_blk1
def ea_blk : Slots → denAs [.c (.d insT)] := fun l => (l, ())
def eo_blk : Slots → denObs [] := fun l => ()
noncomputable def E_blk : Slots → Tree (AV × List Ob) := fun l => 
Tree.ite (decC (List.length l ≤ (1000 : Nat))) (Tree.ite ((chk l).snd == (0 : Int)) (Tree.ite (decide ((0 : Int) ≤ IntKind.i64.wrap ((↑(List.length l) : Int) + (1 : Int))) && (decide (IntKind.i64.wrap ((↑(List.length l) : Int) + (1 : Int)) ≤ IntKind.i64.wrap ((↑(List.length l) : Int) + (1 : Int))) && (decide (IntKind.i64.wrap ((↑(List.length l) : Int) + (1 : Int)) ≤ (140737488355328 : Int)) && bytesOk (IntKind.i64.wrap ((↑(List.length l) : Int) + (1 : Int))).toNat (1 : Nat)))) (Tree.ite (decC (List.length l ≤ (140737488355328 : Nat))) (Tree.ite (decC ((0 : Int) ≤ (0 : Int) ∧ (↑(List.length (sbs l).fst) : Int) = (↑(List.length (sbs l).fst) : Int) ∧ (↑(List.length (sbs l).fst) : Int) ≤ (1000 : Int) ∧ ∀ (j : Nat), j < List.length (sbs l).fst → (0 : Int) ≤ (In.partOf (sbs l).fst j).fst ∧ (In.partOf (sbs l).fst j).fst < (↑(List.replicate (IntKind.i64.wrap ((↑(List.length l) : Int) + (1 : Int))).toNat (false, ())).length : Int))) (Tree.ite (decC ((0 : Int) ≤ (0 : Int) ∧ l = l ∧ (↑(List.length l) : Int) = (↑(List.length l) : Int) ∧ goodL l ∧ reachL l = reachL l ∧ List.length (marks1 (List.drop (0 : Nat) (sbs l).fst) (List.replicate (IntKind.i64.wrap ((↑(List.length l) : Int) + (1 : Int))).toNat (false, ()))) = List.length l + (1 : Nat))) (Tree.ite (decC (List.length l ≤ (140737488355328 : Nat))) (Tree.ite (decC ((0 : Int) ≤ (0 : Int) ∧ (↑(List.length l) : Int) ≤ (1000 : Int) ∧ (↑(List.length (reachL l)) : Int) = (↑(List.length l) : Int) ∧ (↑(List.length (marks2 l (reachL l) (0 : Nat) (marks1 (List.drop (0 : Nat) (sbs l).fst) (List.replicate (IntKind.i64.wrap ((↑(List.length l) : Int) + (1 : Int))).toNat (false, ()))))) : Int) = (↑(List.length l) : Int) + (1 : Int) ∧ (↑(List.length (secs l)) : Int) = (↑(List.length l) : Int) ∧ (List.getD (secs l) (0 : Nat) (false, ())).fst = false ∧ (0 : Int) ≤ (0 : Int) ∧ (false = true → (0 : Nat) < (0 : Nat)))) (Tree.ret (AV.t [Part.one (Cell.h (0 : Nat)), Part.one (Cell.v (Value.int IntKind.i64 (0 : Int)))], [Ob.row partsT (bfold (reachL l) (marks2 l (reachL l) (0 : Nat) (marks1 (List.drop (0 : Nat) (sbs l).fst) (List.replicate (IntKind.i64.wrap ((↑(List.length l) : Int) + (1 : Int))).toNat (false, ())))) (secs l) (0 : Nat) (↑(List.length l) : Int).toNat ([], false)).fst])) Tree.fail) Tree.fail) Tree.fail) Tree.fail) Tree.fail) Tree.fail) (Tree.ite ((chk l).snd != (0 : Int)) (Tree.ret (AV.t [Part.one (Cell.h (0 : Nat)), Part.one (Cell.v (Value.int IntKind.i64 (chk l).snd))], [Ob.row partsT []])) (Tree.ite (decide ((0 : Int) ≤ IntKind.i64.wrap ((↑(List.length l) : Int) + (1 : Int))) && (decide (IntKind.i64.wrap ((↑(List.length l) : Int) + (1 : Int)) ≤ IntKind.i64.wrap ((↑(List.length l) : Int) + (1 : Int))) && (decide (IntKind.i64.wrap ((↑(List.length l) : Int) + (1 : Int)) ≤ (140737488355328 : Int)) && bytesOk (IntKind.i64.wrap ((↑(List.length l) : Int) + (1 : Int))).toNat (1 : Nat)))) (Tree.ite (decC (List.length l ≤ (140737488355328 : Nat))) (Tree.ite (decC ((0 : Int) ≤ (0 : Int) ∧ (↑(List.length (sbs l).fst) : Int) = (↑(List.length (sbs l).fst) : Int) ∧ (↑(List.length (sbs l).fst) : Int) ≤ (1000 : Int) ∧ ∀ (j : Nat), j < List.length (sbs l).fst → (0 : Int) ≤ (In.partOf (sbs l).fst j).fst ∧ (In.partOf (sbs l).fst j).fst < (↑(List.replicate (IntKind.i64.wrap ((↑(List.length l) : Int) + (1 : Int))).toNat (false, ())).length : Int))) (Tree.ite (decC ((0 : Int) ≤ (0 : Int) ∧ l = l ∧ (↑(List.length l) : Int) = (↑(List.length l) : Int) ∧ goodL l ∧ [] = reachL l ∧ List.length (marks1 (List.drop (0 : Nat) (sbs l).fst) (List.replicate (IntKind.i64.wrap ((↑(List.length l) : Int) + (1 : Int))).toNat (false, ()))) = List.length l + (1 : Nat))) (Tree.ite (decC (List.length l ≤ (140737488355328 : Nat))) (Tree.ite (decC ((0 : Int) ≤ (0 : Int) ∧ (↑(List.length l) : Int) ≤ (1000 : Int) ∧ (0 : Int) = (↑(List.length l) : Int) ∧ (↑(List.length (marks2 l [] (0 : Nat) (marks1 (List.drop (0 : Nat) (sbs l).fst) (List.replicate (IntKind.i64.wrap ((↑(List.length l) : Int) + (1 : Int))).toNat (false, ()))))) : Int) = (↑(List.length l) : Int) + (1 : Int) ∧ (↑(List.length (secs l)) : Int) = (↑(List.length l) : Int) ∧ (List.getD (secs l) (0 : Nat) (false, ())).fst = false ∧ (0 : Int) ≤ (0 : Int) ∧ (false = true → (0 : Nat) < (0 : Nat)))) (Tree.ret (AV.t [Part.one (Cell.h (0 : Nat)), Part.one (Cell.v (Value.int IntKind.i64 (0 : Int)))], [Ob.row partsT (bfold [] (marks2 l [] (0 : Nat) (marks1 (List.drop (0 : Nat) (sbs l).fst) (List.replicate (IntKind.i64.wrap ((↑(List.length l) : Int) + (1 : Int))).toNat (false, ())))) (secs l) (0 : Nat) (↑(List.length l) : Int).toNat ([], false)).fst])) Tree.fail) Tree.fail) Tree.fail) Tree.fail) Tree.fail) Tree.fail))) Tree.fail
noncomputable def F_blk : denAs [.c (.d insT)] → denObs [] → Tree (AV × List Ob) := fun x y => match x, y with
  | (l, ()), () => ckP (l.length ≤ 1000) (blocksT l)
theorem ev_blk : ∀ a, (evalFnL Try.prog (lk L_known1) 30 LT_blk Try.f7 c_blk [(0, partsT)] (encAs [.c (.d insT)] (ea_blk a)) (encOs [] (eo_blk a))).run = (E_blk a).run := by
  rintro l
  kernel_rfl
theorem fe_blk : ∀ a y, (F_blk (ea_blk a) (eo_blk a)).run = some y → (E_blk a).run = some y := by
  rintro l y h
  obtain ⟨h1, h⟩ := ckP_run h
  change l.length ≤ 1000 at h1
  rw [← h]
  change _ = (blocksT l).run
  dsimp only [E_blk, List.drop]
  unfold blocksT
  rw [goT (decP h1)]
  by_cases g : (chk l).2 = 0
  · have hg : goodL l := ⟨g, h1⟩
    obtain ⟨hr1, hr2⟩ := reach_ok hg
    have hs := (chk_fine g).2.2.2.2
    have h0 := (chk_fine g).1
    have hsl := subsL_len l (secs l)
    have hfl := froms_len l (secs l)
    rw [goTe g, goTe g, hs, wrap64 (n := (l.length : Int) + 1) (by omega) (by omega)]
    dsimp only
    have hm : (marks1 (subsL l (secs l)) (List.replicate ((l.length : Int) + 1).toNat (false, ()))).length = l.length + 1 := by
      rw [marks1_len, List.length_replicate]; omega
    have hm2 : ∀ b : Bools, (marks2 l (reachL l) 0 b).length = b.length := fun b => by
      unfold marks2
      generalize (List.range l.length).drop 0 = ks
      induction ks generalizing b with
      | nil => rfl
      | cons k ks ih => rw [List.foldl_cons, ih, mark2_len]
    refine (goT ?_).trans ((goT (decP (by omega))).trans ((goT (decP ⟨Int.le_refl 0, rfl, by omega, fun j hj => ?_⟩)).trans ((goT (decP ⟨Int.le_refl 0, rfl, rfl, hg, rfl, hm⟩)).trans ((goT (decP (by omega))).trans ((goT (decP ⟨Int.le_refl 0, by omega, by omega, ?_, ?_, secs0 l, Int.le_refl 0, fun h => by cases h⟩)).trans rfl)))))
    · rw [bytesOk_dec, decide_eq_true (by omega), decide_eq_true (by omega), decide_eq_true (by omega), decide_eq_true (by omega)]; rfl
    · rw [hsl] at hj
      obtain ⟨u1, u2⟩ := fnA_up hj
      rw [subsL_get hj, List.length_replicate]
      dsimp only
      omega
    · rw [hm2, hm]; omega
    · rw [secs_len]
  · rw [goFe g, goTne g, goFe g]; rfl
theorem ok_blk : SummOk Kn Try.prog 7 (sumT [.dp insT] false [.c (.d insT)] [] F_blk) := sumT_view tok_known1 Try.checked.mixed Try.func7 (by kernel_rfl) (by rfl) 30 [(0, partsT)] ea_blk eo_blk
  (by rintro ⟨l, ⟨⟩⟩ ⟨⟩; exact ⟨l, rfl, rfl⟩) LT_blk 0 (by rintro ⟨⟩; rfl) lok_blk E_blk ev_blk fe_blk
noncomputable def L_blk : List (Nat × Summ) := (7, (sumT [.dp insT] false [.c (.d insT)] [] F_blk)) :: L_known1
theorem tok_blk : TOk Kn Try.prog (lk L_blk) := lk_cons ok_blk tok_known1

noncomputable abbrev c_bools : Code := Try.f9.body.getD .skip
def p_bools : List Nat := [0, 1, 0, 1, 1]
def sh_bools : Shape := ⟨[(0, .c (.d boolsT)), (1, .c (.d boolsT)), (5, .c (.i .i64))], []⟩
@[reducible] def A_bools : Type := Bools × Bools × Int
def e_bools : A_bools → sh_bools.den := fun ⟨a, b, i⟩ => ((a, b, i, ()), ())
def v_bools : sh_bools.den → A_bools := fun d => match d with
  | ((a, b, i, ()), ()) => (a, b, i)
def I_bools : A_bools → Prop := fun ⟨a, b, i⟩ => 0 ≤ i ∧ a.length = b.length ∧ a.length ≤ 1000000 ∧ ∀ j : Nat, (j : Int) < i → a.getD j (false, ()) = b.getD j (false, ())
noncomputable def G_bools : A_bools → Tree (Ex × St) := fun ⟨a, b, i⟩ => .ite (decide (a = b)) (.ret (.exit 0, ⟨[], [], 0⟩)) (.ret (.ret, ⟨[(4, AV.c (.v (.bool false)))], [], 0⟩))
noncomputable def orc_bools : Orc := ⟨sh_bools, [], [4], [], fun d => ckP (I_bools (v_bools d)) (G_bools (v_bools d))⟩
noncomputable def LT_bools : LT := oneL p_bools orc_bools (noL)
noncomputable def T_bools : Bools × Bools × Int → Tree (A_bools ⊕ (Ex × St)) := fun ⟨a, b, i⟩ => 
Tree.ite (decide (i < (↑(List.length a) : Int))) (Tree.ite (decide ((0 : Int) ≤ i) && decide (i < (↑(List.length a) : Int))) (Tree.ite (decide ((0 : Int) ≤ i) && decide (i < (↑(List.length b) : Int))) (Tree.ite (!(List.getD a i.toNat (false, ())).fst == (List.getD b i.toNat (false, ())).fst) (Tree.ret (Sum.inr (Ex.ret, { env := [((4 : Nat), AV.p (Part.one (Cell.v (Value.bool false))))], hp := [], nx := (0 : Nat) }))) (Tree.ret (Sum.inl (a, b, IntKind.i64.wrap (i + (1 : Int)))))) Tree.fail) Tree.fail) (Tree.ret (Sum.inr (Ex.exit (0 : Nat), { env := [], hp := [], nx := (0 : Nat) })))
theorem turn_bools : ∀ a : A_bools, (turnT 0 orc_bools (evalCode Try.prog (lk L_blk) Try.f9.ntmps 0 20 LT_bools (bodyAt c_bools p_bools) false (0 :: p_bools)) (sh_bools.enc (e_bools a))).run = ((T_bools a).bind fun s => .ret (turnV sh_bools e_bools s)).run := by
  rintro ⟨a, b, i⟩
  kernel_rfl

def μ_bools : A_bools → Nat := fun ⟨a, b, i⟩ => a.length - i.toNat
theorem step_bools : ∀ a : A_bools, I_bools a → (∃ a', (T_bools a).run = some (.inl a') ∧ I_bools a' ∧ μ_bools a' < μ_bools a ∧ (G_bools a').run = (G_bools a).run) ∨ (∃ y, (T_bools a).run = some (.inr y) ∧ (G_bools a).run = some y ∧ ((∃ id, y.1 = .exit id) ∨ y.1 = .ret)) := by
  rintro ⟨a, b, i⟩ ⟨h1, h2, h3, h4⟩
  simp only [T_bools]
  by_cases hi : i < a.length
  · rw [goTd hi, goTa ⟨h1, hi⟩, goTa ⟨h1, by omega⟩, wrap64 (n := i + 1) (by omega) (by omega)]
    by_cases he : a.getD i.toNat (false, ()) = b.getD i.toNat (false, ())
    · left
      rw [goFN (eq_of_fst he)]
      exact ⟨_, rfl, ⟨by omega, h2, h3, all_succ h1 h4 he⟩, by simp only [μ_bools]; omega, rfl⟩
    · right
      rw [goTN (ne_of_fst he)]
      refine ⟨_, rfl, ?_, .inr rfl⟩
      simp only [G_bools]
      rw [goF (bools_no he)]; rfl
  · right
    rw [goFd hi]
    refine ⟨_, rfl, ?_, .inl ⟨0, rfl⟩⟩
    simp only [G_bools]
    rw [goT (bools_yes h2 fun j hj => h4 j (by omega))]; rfl
theorem lok_bools : LOk Try.prog (lk L_blk) Try.f9.ntmps 0 20 LT_bools c_bools := lok_view (noL_ok2 _ _ _ _ _ _ _) (by kernel_rfl) e_bools (by rintro ⟨⟨a, b, i, ⟨⟩⟩, ⟨⟩⟩; exact ⟨(a, b, i), rfl⟩) T_bools turn_bools I_bools G_bools (by rintro ⟨a, b, i⟩; rfl) μ_bools step_bools
def ea_bools : Bools × Bools → denAs [.c (.d boolsT), .c (.d boolsT)] := fun ⟨a, b⟩ => (a, b, ())
def eo_bools : Bools × Bools → denObs [] := fun ⟨a, b⟩ => ()
noncomputable def E_bools : Bools × Bools → Tree (AV × List Ob) := fun ⟨a, b⟩ => 
Tree.ite ((↑(List.length a) : Int) != (↑(List.length b) : Int)) (Tree.ret (AV.p (Part.one (Cell.v (Value.bool false))), [])) (Tree.ite (decC ((0 : Int) ≤ (0 : Int) ∧ List.length a = List.length b ∧ List.length a ≤ (1000000 : Nat) ∧ ∀ (j : Nat), (↑j : Int) < (0 : Int) → List.getD a j (false, ()) = List.getD b j (false, ()))) (Tree.ite (decide (a = b)) (Tree.ret (AV.p (Part.one (Cell.v (Value.bool true))), [])) (Tree.ret (AV.p (Part.one (Cell.v (Value.bool false))), []))) Tree.fail)
noncomputable def F_bools : denAs [.c (.d boolsT), .c (.d boolsT)] → denObs [] → Tree (AV × List Ob) := fun x y => match x, y with
  | (a, b, ()), () => ckP (a.length ≤ 1000000 ∧ b.length ≤ 1000000) (.ret (AV.b (decide (a = b)), []))
theorem ev_bools : ∀ a, (evalFnL Try.prog (lk L_blk) 20 LT_bools Try.f9 c_bools [] (encAs [.c (.d boolsT), .c (.d boolsT)] (ea_bools a)) (encOs [] (eo_bools a))).run = (E_bools a).run := by
  rintro ⟨a, b⟩
  kernel_rfl
theorem fe_bools : ∀ a y, (F_bools (ea_bools a) (eo_bools a)).run = some y → (E_bools a).run = some y := by
  rintro ⟨a, b⟩ y h
  obtain ⟨⟨h1, h2⟩, h⟩ := ckP_run h
  rw [← h]
  dsimp only [E_bools]
  change _ = some (AV.b (decide (a = b)), [])
  by_cases hl : a.length = b.length
  · refine (goFne (by omega)).trans ((goT (decP ⟨Int.le_refl 0, hl, h1, fun j hj => by omega⟩)).trans ?_)
    cases decide (a = b) <;> rfl
  · refine (goTne (by omega)).trans ?_
    rw [show decide (a = b) = false from decide_eq_false fun e => hl (by rw [e])]; rfl
theorem ok_bools : SummOk Kn Try.prog 9 (sumT [.dp boolsT, .dp boolsT] false [.c (.d boolsT), .c (.d boolsT)] [] F_bools) := sumT_view tok_blk Try.checked.mixed Try.func9 (by kernel_rfl) (by rfl) 20 [] ea_bools eo_bools
  (by rintro ⟨a, b, ⟨⟩⟩ ⟨⟩; exact ⟨(a, b), rfl, rfl⟩) LT_bools 0 (by rintro ⟨⟩; rfl) lok_bools E_bools ev_bools fe_bools
noncomputable def L_bools : List (Nat × Summ) := (9, (sumT [.dp boolsT, .dp boolsT] false [.c (.d boolsT), .c (.d boolsT)] [] F_bools)) :: L_blk
theorem tok_bools : TOk Kn Try.prog (lk L_bools) := lk_cons ok_bools tok_blk

end Go.Proofs.Ytdbnbijillmlcaa
