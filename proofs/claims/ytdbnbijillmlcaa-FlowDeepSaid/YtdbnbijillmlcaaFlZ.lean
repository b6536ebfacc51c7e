/-
  How deep calls go, on the rows of FlowDeep (written by our own gen_flz.py).
-/
import Derived.Test.YtdbnbijillmlcaaFlY
namespace Go.Proofs.Ytdbnbijillmlcaa
open Go Go.Sy Go.Sz Go.In Go.Fl Go.Proofs.Ytdbnbijillmlcaa
set_option linter.unusedVariables false
set_option linter.unusedSimpArgs false
set_option linter.constructorNameAsVariable false
set_option maxRecDepth 100000

/-- calls name a subprogram -/
noncomputable def okN (l : Slots) : Bool := (List.range l.length).all fun k => !(opA l k == BitVec.ofInt 8 133) || namesV l k
/-- what is asked of slots, kept folded -/
structure Abs where
  R : Slots → Bool
  S : Slots → Bool
  N : Slots → Bool
  hR : ∀ l, R l = true → okR l = true
  hS : ∀ l, S l = true → okS l = true
  hN : ∀ l, N l = true → okN l = true
noncomputable def realQ : Abs := ⟨okR, okS, okN, fun _ h => h, fun _ h => h, fun _ h => h⟩
noncomputable def F_rchq (q : Abs) : denAs [.c (.d insT)] → denObs [] → Tree (AV × List Ob) := fun x y => match x, y with
  | (l, ()), () => .ite (q.R l) (.ret (.t [.one (.h 0), .one (.v (.int .i64 0))], [.row boolsT (List.replicate l.length (true, ()))])) .fail
noncomputable def F_sbsq (q : Abs) : denAs [.c (.d insT)] → denObs [] → Tree (AV × List Ob) := fun x y => match x, y with
  | (l, ()), () => .ite (q.S l) (.ret (.t [.one (.h 0), .one (.v (.int .i64 0)), .one (.v (.int .i64 0))], [.row partsT (partsD (l.length / 2) 0)])) .fail
theorem ok_rchq (q : Abs) : SummOk Kn Try.prog 6 (sumT [.dp insT] false [.c (.d insT)] [] (F_rchq q)) := weakT ok_rchw (by
  rintro ⟨l, ⟨⟩⟩ ⟨⟩ r e
  cases hb : q.R l with
  | false => exact absurd ((goF hb).symm.trans e) (by intro h; cases h)
  | true => exact (goT (q.hR l hb)).trans ((goT hb).symm.trans e))
theorem ok_sbsq (q : Abs) : SummOk Kn Try.prog 15 (sumT [.dp insT] false [.c (.d insT)] [] (F_sbsq q)) := weakT ok_sbsw (by
  rintro ⟨l, ⟨⟩⟩ ⟨⟩ r e
  cases hb : q.S l with
  | false => exact absurd ((goF hb).symm.trans e) (by intro h; cases h)
  | true => exact (goT (q.hS l hb)).trans ((goT hb).symm.trans e))
noncomputable def F_namq (q : Abs) : denAs [.c (.d insT), .c (.i .i64)] → denObs [] → Tree (AV × List Ob) := fun x y => match x, y with
  | (l, k, ()), () => .ite (decide (0 ≤ k) && decide (k < l.length)) (.ite (opA l k.toNat == BitVec.ofInt 8 133) (.ite (q.N l) (.ret (.t [.one (.v (.int .i64 (targetI l k))), .one (.v (.bool true))], [])) .fail)
      (.ite (namesV l k) (.ret (.t [.one (.v (.int .i64 (targetI l k))), .one (.v (.bool true))], [])) (.ret (.t [.one (.v (.int .i64 0)), .one (.v (.bool false))], [])))) .fail
theorem okN_at {l : Slots} {k : Int} (h : okN l = true) (h2 : 0 ≤ k) (h3 : k < (l.length : Int)) (ho : (opA l k.toNat == BitVec.ofInt 8 133) = true) : namesV l k = true := by
  unfold okN at h
  rw [List.all_eq_true] at h
  have h4 := h k.toNat (List.mem_range.2 (by omega))
  rw [ho] at h4
  have h5 : namesV l ((k.toNat : Nat) : Int) = true := h4
  rwa [show ((k.toNat : Nat) : Int) = k from Int.toNat_of_nonneg h2] at h5
theorem ok_namq (q : Abs) : SummOk Kn Try.prog 29 (sumT [.dp insT, .any] false [.c (.d insT), .c (.i .i64)] [] (F_namq q)) := weakT ok_namesw (by
  rintro ⟨l, k, ⟨⟩⟩ ⟨⟩ r e
  cases hb : decide (0 ≤ k) && decide (k < l.length) with
  | false => exact absurd ((goF hb).symm.trans e) (by intro h; cases h)
  | true =>
    refine (goT hb).trans ?_
    replace e := (goT hb).symm.trans e
    cases ho : opA l k.toNat == BitVec.ofInt 8 133 with
    | false => exact (goF ho).symm.trans e
    | true =>
      replace e := (goT ho).symm.trans e
      cases hn : q.N l with
      | false => exact absurd ((goF hn).symm.trans e) (by intro h; cases h)
      | true =>
        replace e := (goT hn).symm.trans e
        rw [Bool.and_eq_true] at hb
        have h5 := okN_at (q.hN l hn) (of_decide_eq_true hb.1) (of_decide_eq_true hb.2) ho
        exact (goT h5).trans e)
noncomputable def L_base (q : Abs) : List (Nat × Summ) := (6, (sumT [.dp insT] false [.c (.d insT)] [] (F_rchq q))) :: (15, (sumT [.dp insT] false [.c (.d insT)] [] (F_sbsq q))) :: (29, (sumT [.dp insT, .any] false [.c (.d insT), .c (.i .i64)] [] (F_namq q))) :: L_namesw
theorem tok_base (q : Abs) : TOk Kn Try.prog (lk (L_base q)) := lk_cons (ok_rchq q) (lk_cons (ok_sbsq q) (lk_cons (ok_namq q) tok_namesw))
theorem ok_len64 (q : Abs) : SummOk Kn Try.prog 53 (sumE [.any] false Try.prog (lkL (L_base q)) 60 Try.f53 (Try.f53.body.getD .skip) []) := sumE_ok (tok_lit (tok_base q)) Try.checked.mixed Try.func53 (by kernel_rfl) (by rfl) 60 []
noncomputable def L_len64 (q : Abs) : List (Nat × Summ) := (53, (sumE [.any] false Try.prog (lkL (L_base q)) 60 Try.f53 (Try.f53.body.getD .skip) [])) :: (L_base q)
theorem tok_len64 (q : Abs) : TOk Kn Try.prog (lk (L_len64 q)) := lk_cons (ok_len64 q) (tok_base q)

theorem ok_blen (q : Abs) : SummOk Kn Try.prog 36 (sumE [.any] false Try.prog (lkL (L_len64 q)) 60 Try.f36 (Try.f36.body.getD .skip) []) := sumE_ok (tok_lit (tok_len64 q)) Try.checked.mixed Try.func36 (by kernel_rfl) (by rfl) 60 []
noncomputable def L_blen (q : Abs) : List (Nat × Summ) := (36, (sumE [.any] false Try.prog (lkL (L_len64 q)) 60 Try.f36 (Try.f36.body.getD .skip) [])) :: (L_len64 q)
theorem tok_blen (q : Abs) : TOk Kn Try.prog (lk (L_blen q)) := lk_cons (ok_blen q) (tok_len64 q)

theorem ok_nan (q : Abs) : SummOk Kn Try.prog 66 (sumE [.any] false Try.prog (lkL (L_blen q)) 60 Try.f66 (Try.f66.body.getD .skip) []) := sumE_ok (tok_lit (tok_blen q)) Try.checked.mixed Try.func66 (by kernel_rfl) (by rfl) 60 []
noncomputable def L_nan (q : Abs) : List (Nat × Summ) := (66, (sumE [.any] false Try.prog (lkL (L_blen q)) 60 Try.f66 (Try.f66.body.getD .skip) [])) :: (L_blen q)
theorem tok_nan (q : Abs) : TOk Kn Try.prog (lk (L_nan q)) := lk_cons (ok_nan q) (tok_blen q)

theorem ok_cls (q : Abs) : SummOk Kn Try.prog 49 (sumE [.any, .any] false Try.prog (lkL (L_nan q)) 60 Try.f49 (Try.f49.body.getD .skip) []) := sumE_ok (tok_lit (tok_nan q)) Try.checked.mixed Try.func49 (by kernel_rfl) (by rfl) 60 []
noncomputable def L_cls (q : Abs) : List (Nat × Summ) := (49, (sumE [.any, .any] false Try.prog (lkL (L_nan q)) 60 Try.f49 (Try.f49.body.getD .skip) [])) :: (L_nan q)
theorem tok_cls (q : Abs) : TOk Kn Try.prog (lk (L_cls q)) := lk_cons (ok_cls q) (tok_nan q)

theorem ok_inso (q : Abs) : SummOk Kn Try.prog 43 (sumE [.any, .any, .any] false Try.prog (lkL (L_cls q)) 60 Try.f43 (Try.f43.body.getD .skip) []) := sumE_ok (tok_lit (tok_cls q)) Try.checked.mixed Try.func43 (by kernel_rfl) (by rfl) 60 []
noncomputable def L_inso (q : Abs) : List (Nat × Summ) := (43, (sumE [.any, .any, .any] false Try.prog (lkL (L_cls q)) 60 Try.f43 (Try.f43.body.getD .skip) [])) :: (L_cls q)
theorem tok_inso (q : Abs) : TOk Kn Try.prog (lk (L_inso q)) := lk_cons (ok_inso q) (tok_cls q)

theorem ok_pdq (q : Abs) : SummOk Kn Try.prog 35 (sumE [.any, .any, .any, .any] false Try.prog (lkL (L_inso q)) 60 Try.f35 (Try.f35.body.getD .skip) []) := sumE_ok (tok_lit (tok_inso q)) Try.checked.mixed Try.func35 (by kernel_rfl) (by rfl) 60 []
noncomputable def L_pdq (q : Abs) : List (Nat × Summ) := (35, (sumE [.any, .any, .any, .any] false Try.prog (lkL (L_inso q)) 60 Try.f35 (Try.f35.body.getD .skip) [])) :: (L_inso q)
theorem tok_pdq (q : Abs) : TOk Kn Try.prog (lk (L_pdq q)) := lk_cons (ok_pdq q) (tok_inso q)

theorem ok_srt (q : Abs) : SummOk Kn Try.prog 23 (sumE [.any] false Try.prog (lkL (L_pdq q)) 60 Try.f23 (Try.f23.body.getD .skip) []) := sumE_ok (tok_lit (tok_pdq q)) Try.checked.mixed Try.func23 (by kernel_rfl) (by rfl) 60 []
noncomputable def L_srt (q : Abs) : List (Nat × Summ) := (23, (sumE [.any] false Try.prog (lkL (L_pdq q)) 60 Try.f23 (Try.f23.body.getD .skip) [])) :: (L_pdq q)
theorem tok_srt (q : Abs) : TOk Kn Try.prog (lk (L_srt q)) := lk_cons (ok_srt q) (tok_pdq q)

theorem ok_cmpc (q : Abs) : SummOk Kn Try.prog 34 (sumE [.any] false Try.prog (lkL (L_srt q)) 60 Try.f34 (Try.f34.body.getD .skip) []) := sumE_ok (tok_lit (tok_srt q)) Try.checked.mixed Try.func34 (by kernel_rfl) (by rfl) 60 []
noncomputable def L_cmpc (q : Abs) : List (Nat × Summ) := (34, (sumE [.any] false Try.prog (lkL (L_srt q)) 60 Try.f34 (Try.f34.body.getD .skip) [])) :: (L_srt q)
theorem tok_cmpc (q : Abs) : TOk Kn Try.prog (lk (L_cmpc q)) := lk_cons (ok_cmpc q) (tok_srt q)

theorem ok_fcal (q : Abs) : SummOk Kn Try.prog 21 (sumE [.dp insT] false Try.prog (lkL (L_cmpc q)) 60 Try.f21 (Try.f21.body.getD .skip) []) := sumE_ok (tok_lit (tok_cmpc q)) Try.checked.mixed Try.func21 (by kernel_rfl) (by rfl) 60 []
noncomputable def L_fcal (q : Abs) : List (Nat × Summ) := (21, (sumE [.dp insT] false Try.prog (lkL (L_cmpc q)) 60 Try.f21 (Try.f21.body.getD .skip) [])) :: (L_cmpc q)
theorem tok_fcal (q : Abs) : TOk Kn Try.prog (lk (L_fcal q)) := lk_cons (ok_fcal q) (tok_cmpc q)

def litB (r : AV × List Ob) : Tree (AV × List Ob) := match r with
  | (v, .lit [.v (.bool x)] :: H) => .ite x (.ret (v, .lit [.v (.bool true)] :: H)) .fail
  | _ => .fail
theorem litB_eq {r s : AV × List Ob} (h : (litB r).run = some s) : s = r := by
  unfold litB at h
  split at h
  · rename_i v x H
    cases x with
    | true => exact (Option.some.inj h).symm
    | false => cases h
  · cases h
def p_cut : List Nat := [1, 1]
def orc_cut : Orc := ⟨⟨[], []⟩, [], [], [], fun _ => .fail⟩
noncomputable def LT_cut : LT := oneL p_cut orc_cut noL
theorem lok_cut (T : Tab) (m : Nat) : LOk Try.prog T Try.f22.ntmps m 60 LT_cut (Try.f22.body.getD .skip) := lok_part (noL_ok2 _ _ _ _ _ _ _) (by kernel_rfl) (fun d ex st' h => by cases h)
theorem ok_dcut (q : Abs) : SummOk Kn Try.prog 22 ⟨[.any, .any, .any, .any, .any], false, fun args H => (evalFnL Try.prog (lkL (L_fcal q)) 60 LT_cut Try.f22 (Try.f22.body.getD .skip) [] args H).bind litB, fun _ _ => true⟩ := summ_of_evalL (tok_lit (tok_fcal q)) Try.checked.mixed Try.func22 (by kernel_rfl) (by rfl) 60 [] fun args H v H' h _ => by
  obtain ⟨r, h1, h2⟩ := Tree.run_bind_some h
  rw [← litB_eq h2] at h1
  exact ⟨LT_cut, lok_cut _ _, h1⟩
noncomputable def L_dcut (q : Abs) : List (Nat × Summ) := (22, ⟨[.any, .any, .any, .any, .any], false, fun args H => (evalFnL Try.prog (lkL (L_fcal q)) 60 LT_cut Try.f22 (Try.f22.body.getD .skip) [] args H).bind litB, fun _ _ => true⟩) :: (L_fcal q)
theorem tok_dcut (q : Abs) : TOk Kn Try.prog (lk (L_dcut q)) := lk_cons (ok_dcut q) (tok_fcal q)

theorem ok_e1 (q : Abs) : SummOk Kn Try.prog 22 (sumE [.any, .any, .any, .any, .any] false Try.prog (lkL (L_dcut q)) 60 Try.f22 (Try.f22.body.getD .skip) []) := sumE_ok (tok_lit (tok_dcut q)) Try.checked.mixed Try.func22 (by kernel_rfl) (by rfl) 60 []
noncomputable def L_e1 (q : Abs) : List (Nat × Summ) := (22, (sumE [.any, .any, .any, .any, .any] false Try.prog (lkL (L_dcut q)) 60 Try.f22 (Try.f22.body.getD .skip) [])) :: (L_dcut q)
theorem tok_e1 (q : Abs) : TOk Kn Try.prog (lk (L_e1 q)) := lk_cons (ok_e1 q) (tok_dcut q)

theorem ok_e2 (q : Abs) : SummOk Kn Try.prog 22 (sumE [.any, .any, .any, .any, .any] false Try.prog (lkL (L_e1 q)) 60 Try.f22 (Try.f22.body.getD .skip) []) := sumE_ok (tok_lit (tok_e1 q)) Try.checked.mixed Try.func22 (by kernel_rfl) (by rfl) 60 []
noncomputable def L_e2 (q : Abs) : List (Nat × Summ) := (22, (sumE [.any, .any, .any, .any, .any] false Try.prog (lkL (L_e1 q)) 60 Try.f22 (Try.f22.body.getD .skip) [])) :: (L_e1 q)
theorem tok_e2 (q : Abs) : TOk Kn Try.prog (lk (L_e2 q)) := lk_cons (ok_e2 q) (tok_e1 q)

theorem ok_e3 (q : Abs) : SummOk Kn Try.prog 22 (sumE [.any, .any, .any, .any, .any] false Try.prog (lkL (L_e2 q)) 60 Try.f22 (Try.f22.body.getD .skip) []) := sumE_ok (tok_lit (tok_e2 q)) Try.checked.mixed Try.func22 (by kernel_rfl) (by rfl) 60 []
noncomputable def L_e3 (q : Abs) : List (Nat × Summ) := (22, (sumE [.any, .any, .any, .any, .any] false Try.prog (lkL (L_e2 q)) 60 Try.f22 (Try.f22.body.getD .skip) [])) :: (L_e2 q)
theorem tok_e3 (q : Abs) : TOk Kn Try.prog (lk (L_e3 q)) := lk_cons (ok_e3 q) (tok_e2 q)

theorem ok_e4 (q : Abs) : SummOk Kn Try.prog 22 (sumE [.any, .any, .any, .any, .any] false Try.prog (lkL (L_e3 q)) 60 Try.f22 (Try.f22.body.getD .skip) []) := sumE_ok (tok_lit (tok_e3 q)) Try.checked.mixed Try.func22 (by kernel_rfl) (by rfl) 60 []
noncomputable def L_e4 (q : Abs) : List (Nat × Summ) := (22, (sumE [.any, .any, .any, .any, .any] false Try.prog (lkL (L_e3 q)) 60 Try.f22 (Try.f22.body.getD .skip) [])) :: (L_e3 q)
theorem tok_e4 (q : Abs) : TOk Kn Try.prog (lk (L_e4 q)) := lk_cons (ok_e4 q) (tok_e3 q)

theorem ok_e5 (q : Abs) : SummOk Kn Try.prog 22 (sumE [.any, .any, .any, .any, .any] false Try.prog (lkL (L_e4 q)) 60 Try.f22 (Try.f22.body.getD .skip) []) := sumE_ok (tok_lit (tok_e4 q)) Try.checked.mixed Try.func22 (by kernel_rfl) (by rfl) 60 []
noncomputable def L_e5 (q : Abs) : List (Nat × Summ) := (22, (sumE [.any, .any, .any, .any, .any] false Try.prog (lkL (L_e4 q)) 60 Try.f22 (Try.f22.body.getD .skip) [])) :: (L_e4 q)
theorem tok_e5 (q : Abs) : TOk Kn Try.prog (lk (L_e5 q)) := lk_cons (ok_e5 q) (tok_e4 q)

theorem ok_e6 (q : Abs) : SummOk Kn Try.prog 22 (sumE [.any, .any, .any, .any, .any] false Try.prog (lkL (L_e5 q)) 60 Try.f22 (Try.f22.body.getD .skip) []) := sumE_ok (tok_lit (tok_e5 q)) Try.checked.mixed Try.func22 (by kernel_rfl) (by rfl) 60 []
noncomputable def L_e6 (q : Abs) : List (Nat × Summ) := (22, (sumE [.any, .any, .any, .any, .any] false Try.prog (lkL (L_e5 q)) 60 Try.f22 (Try.f22.body.getD .skip) [])) :: (L_e5 q)
theorem tok_e6 (q : Abs) : TOk Kn Try.prog (lk (L_e6 q)) := lk_cons (ok_e6 q) (tok_e5 q)

theorem ok_e7 (q : Abs) : SummOk Kn Try.prog 22 (sumE [.any, .any, .any, .any, .any] false Try.prog (lkL (L_e6 q)) 60 Try.f22 (Try.f22.body.getD .skip) []) := sumE_ok (tok_lit (tok_e6 q)) Try.checked.mixed Try.func22 (by kernel_rfl) (by rfl) 60 []
noncomputable def L_e7 (q : Abs) : List (Nat × Summ) := (22, (sumE [.any, .any, .any, .any, .any] false Try.prog (lkL (L_e6 q)) 60 Try.f22 (Try.f22.body.getD .skip) [])) :: (L_e6 q)
theorem tok_e7 (q : Abs) : TOk Kn Try.prog (lk (L_e7 q)) := lk_cons (ok_e7 q) (tok_e6 q)

theorem ok_e8 (q : Abs) : SummOk Kn Try.prog 22 (sumE [.any, .any, .any, .any, .any] false Try.prog (lkL (L_e7 q)) 60 Try.f22 (Try.f22.body.getD .skip) []) := sumE_ok (tok_lit (tok_e7 q)) Try.checked.mixed Try.func22 (by kernel_rfl) (by rfl) 60 []
noncomputable def L_e8 (q : Abs) : List (Nat × Summ) := (22, (sumE [.any, .any, .any, .any, .any] false Try.prog (lkL (L_e7 q)) 60 Try.f22 (Try.f22.body.getD .skip) [])) :: (L_e7 q)
theorem tok_e8 (q : Abs) : TOk Kn Try.prog (lk (L_e8 q)) := lk_cons (ok_e8 q) (tok_e7 q)

theorem ok_e9 (q : Abs) : SummOk Kn Try.prog 22 (sumE [.any, .any, .any, .any, .any] false Try.prog (lkL (L_e8 q)) 60 Try.f22 (Try.f22.body.getD .skip) []) := sumE_ok (tok_lit (tok_e8 q)) Try.checked.mixed Try.func22 (by kernel_rfl) (by rfl) 60 []
noncomputable def L_e9 (q : Abs) : List (Nat × Summ) := (22, (sumE [.any, .any, .any, .any, .any] false Try.prog (lkL (L_e8 q)) 60 Try.f22 (Try.f22.body.getD .skip) [])) :: (L_e8 q)
theorem tok_e9 (q : Abs) : TOk Kn Try.prog (lk (L_e9 q)) := lk_cons (ok_e9 q) (tok_e8 q)

theorem ok_e10 (q : Abs) : SummOk Kn Try.prog 22 (sumE [.any, .any, .any, .any, .any] false Try.prog (lkL (L_e9 q)) 60 Try.f22 (Try.f22.body.getD .skip) []) := sumE_ok (tok_lit (tok_e9 q)) Try.checked.mixed Try.func22 (by kernel_rfl) (by rfl) 60 []
noncomputable def L_e10 (q : Abs) : List (Nat × Summ) := (22, (sumE [.any, .any, .any, .any, .any] false Try.prog (lkL (L_e9 q)) 60 Try.f22 (Try.f22.body.getD .skip) [])) :: (L_e9 q)
theorem tok_e10 (q : Abs) : TOk Kn Try.prog (lk (L_e10 q)) := lk_cons (ok_e10 q) (tok_e9 q)

theorem ok_e11 (q : Abs) : SummOk Kn Try.prog 22 (sumE [.any, .any, .any, .any, .any] false Try.prog (lkL (L_e10 q)) 60 Try.f22 (Try.f22.body.getD .skip) []) := sumE_ok (tok_lit (tok_e10 q)) Try.checked.mixed Try.func22 (by kernel_rfl) (by rfl) 60 []
noncomputable def L_e11 (q : Abs) : List (Nat × Summ) := (22, (sumE [.any, .any, .any, .any, .any] false Try.prog (lkL (L_e10 q)) 60 Try.f22 (Try.f22.body.getD .skip) [])) :: (L_e10 q)
theorem tok_e11 (q : Abs) : TOk Kn Try.prog (lk (L_e11 q)) := lk_cons (ok_e11 q) (tok_e10 q)

theorem ok_e12 (q : Abs) : SummOk Kn Try.prog 22 (sumE [.any, .any, .any, .any, .any] false Try.prog (lkL (L_e11 q)) 60 Try.f22 (Try.f22.body.getD .skip) []) := sumE_ok (tok_lit (tok_e11 q)) Try.checked.mixed Try.func22 (by kernel_rfl) (by rfl) 60 []
noncomputable def L_e12 (q : Abs) : List (Nat × Summ) := (22, (sumE [.any, .any, .any, .any, .any] false Try.prog (lkL (L_e11 q)) 60 Try.f22 (Try.f22.body.getD .skip) [])) :: (L_e11 q)
theorem tok_e12 (q : Abs) : TOk Kn Try.prog (lk (L_e12 q)) := lk_cons (ok_e12 q) (tok_e11 q)

theorem ok_e13 (q : Abs) : SummOk Kn Try.prog 22 (sumE [.any, .any, .any, .any, .any] false Try.prog (lkL (L_e12 q)) 60 Try.f22 (Try.f22.body.getD .skip) []) := sumE_ok (tok_lit (tok_e12 q)) Try.checked.mixed Try.func22 (by kernel_rfl) (by rfl) 60 []
noncomputable def L_e13 (q : Abs) : List (Nat × Summ) := (22, (sumE [.any, .any, .any, .any, .any] false Try.prog (lkL (L_e12 q)) 60 Try.f22 (Try.f22.body.getD .skip) [])) :: (L_e12 q)
theorem tok_e13 (q : Abs) : TOk Kn Try.prog (lk (L_e13 q)) := lk_cons (ok_e13 q) (tok_e12 q)

theorem ok_e14 (q : Abs) : SummOk Kn Try.prog 22 (sumE [.any, .any, .any, .any, .any] false Try.prog (lkL (L_e13 q)) 60 Try.f22 (Try.f22.body.getD .skip) []) := sumE_ok (tok_lit (tok_e13 q)) Try.checked.mixed Try.func22 (by kernel_rfl) (by rfl) 60 []
noncomputable def L_e14 (q : Abs) : List (Nat × Summ) := (22, (sumE [.any, .any, .any, .any, .any] false Try.prog (lkL (L_e13 q)) 60 Try.f22 (Try.f22.body.getD .skip) [])) :: (L_e13 q)
theorem tok_e14 (q : Abs) : TOk Kn Try.prog (lk (L_e14 q)) := lk_cons (ok_e14 q) (tok_e13 q)

theorem ok_e15 (q : Abs) : SummOk Kn Try.prog 22 (sumE [.any, .any, .any, .any, .any] false Try.prog (lkL (L_e14 q)) 60 Try.f22 (Try.f22.body.getD .skip) []) := sumE_ok (tok_lit (tok_e14 q)) Try.checked.mixed Try.func22 (by kernel_rfl) (by rfl) 60 []
noncomputable def L_e15 (q : Abs) : List (Nat × Summ) := (22, (sumE [.any, .any, .any, .any, .any] false Try.prog (lkL (L_e14 q)) 60 Try.f22 (Try.f22.body.getD .skip) [])) :: (L_e14 q)
theorem tok_e15 (q : Abs) : TOk Kn Try.prog (lk (L_e15 q)) := lk_cons (ok_e15 q) (tok_e14 q)

theorem ok_e16 (q : Abs) : SummOk Kn Try.prog 22 (sumE [.any, .any, .any, .any, .any] false Try.prog (lkL (L_e15 q)) 60 Try.f22 (Try.f22.body.getD .skip) []) := sumE_ok (tok_lit (tok_e15 q)) Try.checked.mixed Try.func22 (by kernel_rfl) (by rfl) 60 []
noncomputable def L_e16 (q : Abs) : List (Nat × Summ) := (22, (sumE [.any, .any, .any, .any, .any] false Try.prog (lkL (L_e15 q)) 60 Try.f22 (Try.f22.body.getD .skip) [])) :: (L_e15 q)
theorem tok_e16 (q : Abs) : TOk Kn Try.prog (lk (L_e16 q)) := lk_cons (ok_e16 q) (tok_e15 q)

theorem ok_e17 (q : Abs) : SummOk Kn Try.prog 22 (sumE [.any, .any, .any, .any, .any] false Try.prog (lkL (L_e16 q)) 60 Try.f22 (Try.f22.body.getD .skip) []) := sumE_ok (tok_lit (tok_e16 q)) Try.checked.mixed Try.func22 (by kernel_rfl) (by rfl) 60 []
noncomputable def L_e17 (q : Abs) : List (Nat × Summ) := (22, (sumE [.any, .any, .any, .any, .any] false Try.prog (lkL (L_e16 q)) 60 Try.f22 (Try.f22.body.getD .skip) [])) :: (L_e16 q)
theorem tok_e17 (q : Abs) : TOk Kn Try.prog (lk (L_e17 q)) := lk_cons (ok_e17 q) (tok_e16 q)

theorem ok_e18 (q : Abs) : SummOk Kn Try.prog 22 (sumE [.any, .any, .any, .any, .any] false Try.prog (lkL (L_e17 q)) 60 Try.f22 (Try.f22.body.getD .skip) []) := sumE_ok (tok_lit (tok_e17 q)) Try.checked.mixed Try.func22 (by kernel_rfl) (by rfl) 60 []
noncomputable def L_e18 (q : Abs) : List (Nat × Summ) := (22, (sumE [.any, .any, .any, .any, .any] false Try.prog (lkL (L_e17 q)) 60 Try.f22 (Try.f22.body.getD .skip) [])) :: (L_e17 q)
theorem tok_e18 (q : Abs) : TOk Kn Try.prog (lk (L_e18 q)) := lk_cons (ok_e18 q) (tok_e17 q)

theorem ok_e19 (q : Abs) : SummOk Kn Try.prog 22 (sumE [.any, .any, .any, .any, .any] false Try.prog (lkL (L_e18 q)) 60 Try.f22 (Try.f22.body.getD .skip) []) := sumE_ok (tok_lit (tok_e18 q)) Try.checked.mixed Try.func22 (by kernel_rfl) (by rfl) 60 []
noncomputable def L_e19 (q : Abs) : List (Nat × Summ) := (22, (sumE [.any, .any, .any, .any, .any] false Try.prog (lkL (L_e18 q)) 60 Try.f22 (Try.f22.body.getD .skip) [])) :: (L_e18 q)
theorem tok_e19 (q : Abs) : TOk Kn Try.prog (lk (L_e19 q)) := lk_cons (ok_e19 q) (tok_e18 q)

theorem ok_e20 (q : Abs) : SummOk Kn Try.prog 22 (sumE [.any, .any, .any, .any, .any] false Try.prog (lkL (L_e19 q)) 60 Try.f22 (Try.f22.body.getD .skip) []) := sumE_ok (tok_lit (tok_e19 q)) Try.checked.mixed Try.func22 (by kernel_rfl) (by rfl) 60 []
noncomputable def L_e20 (q : Abs) : List (Nat × Summ) := (22, (sumE [.any, .any, .any, .any, .any] false Try.prog (lkL (L_e19 q)) 60 Try.f22 (Try.f22.body.getD .skip) [])) :: (L_e19 q)
theorem tok_e20 (q : Abs) : TOk Kn Try.prog (lk (L_e20 q)) := lk_cons (ok_e20 q) (tok_e19 q)

end Go.Proofs.Ytdbnbijillmlcaa
