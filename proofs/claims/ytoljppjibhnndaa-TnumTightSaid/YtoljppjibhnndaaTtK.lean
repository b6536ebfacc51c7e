/-
  The contracts of the tnums' operations, of what tells all numbers and the tightest tnum (written by our own gen_tt.py).
-/
import Derived.Test.YtoljppjibhnndaaRgK
import Derived.Test.YtoljppjibhnndaaTtR
import Derived.Test.YtoljppjibhnndaaSzAH
namespace Go.Proofs.Ytoljppjibhnndaa
open Go Go.Sy Go.Sz Go.Tn Go.Proofs.Ytoljppjibhnndaa
set_option linter.unusedVariables false
set_option linter.unusedSimpArgs false
set_option linter.constructorNameAsVariable false
set_option maxRecDepth 100000

theorem ev_add : ∀ x : denAs [tS, tS], (evalFnL Try.prog (lk L_known) 20 noL Try.f10 (Try.f10.body.getD .skip) [] (encAs [tS, tS] x) []).run = some ((fun x => tA (add ⟨x.1.1, x.1.2.1⟩ ⟨x.2.1.1, x.2.1.2.1⟩)) x, []) := by
  rintro ⟨⟨(a : BitVec 64), (b : BitVec 64), _⟩, ⟨(c : BitVec 64), (d : BitVec 64), _⟩, _⟩
  kernel_rfl
theorem ok_add : SummOk Kn Try.prog 10 (sumF [.any, .any] [tS, tS] (fun x => tA (add ⟨x.1.1, x.1.2.1⟩ ⟨x.2.1.1, x.2.1.2.1⟩))) := sumF_ok tok_known Try.checked.mixed Try.func10 (by kernel_rfl) (by rfl) 20 [] ev_add
noncomputable def L_add : List (Nat × Summ) := (10, (sumF [.any, .any] [tS, tS] (fun x => tA (add ⟨x.1.1, x.1.2.1⟩ ⟨x.2.1.1, x.2.1.2.1⟩)))) :: L_known
theorem tok_add : TOk Kn Try.prog (lk L_add) := lk_cons ok_add tok_known

theorem ok_pand : SummOk Kn Try.prog 23 (sumE [.any] false Try.prog (lk L_add) 20 Try.f23 (Try.f23.body.getD .skip) []) := sumE_ok tok_add Try.checked.mixed Try.func23 (by kernel_rfl) (by rfl) 20 []
noncomputable def L_pand : List (Nat × Summ) := (23, (sumE [.any] false Try.prog (lk L_add) 20 Try.f23 (Try.f23.body.getD .skip) [])) :: L_add
theorem tok_pand : TOk Kn Try.prog (lk L_pand) := lk_cons ok_pand tok_add

theorem ok_por : SummOk Kn Try.prog 24 (sumE [.any] false Try.prog (lk L_pand) 20 Try.f24 (Try.f24.body.getD .skip) []) := sumE_ok tok_pand Try.checked.mixed Try.func24 (by kernel_rfl) (by rfl) 20 []
noncomputable def L_por : List (Nat × Summ) := (24, (sumE [.any] false Try.prog (lk L_pand) 20 Try.f24 (Try.f24.body.getD .skip) [])) :: L_pand
theorem tok_por : TOk Kn Try.prog (lk L_por) := lk_cons ok_por tok_pand

theorem ok_pxor : SummOk Kn Try.prog 25 (sumE [.any] false Try.prog (lk L_por) 20 Try.f25 (Try.f25.body.getD .skip) []) := sumE_ok tok_por Try.checked.mixed Try.func25 (by kernel_rfl) (by rfl) 20 []
noncomputable def L_pxor : List (Nat × Summ) := (25, (sumE [.any] false Try.prog (lk L_por) 20 Try.f25 (Try.f25.body.getD .skip) [])) :: L_por
theorem tok_pxor : TOk Kn Try.prog (lk L_pxor) := lk_cons ok_pxor tok_por

theorem ok_of : SummOk Kn Try.prog 22 (sumE [.any, .any, .any] false Try.prog (lk L_pxor) 20 Try.f22 (Try.f22.body.getD .skip) []) := sumE_ok tok_pxor Try.checked.mixed Try.func22 (by kernel_rfl) (by rfl) 20 []
noncomputable def L_of : List (Nat × Summ) := (22, (sumE [.any, .any, .any] false Try.prog (lk L_pxor) 20 Try.f22 (Try.f22.body.getD .skip) [])) :: L_pxor
theorem tok_of : TOk Kn Try.prog (lk L_of) := lk_cons ok_of tok_pxor

theorem ev_and : ∀ x : denAs [tS, tS], (evalFnL Try.prog (lk L_of) 20 noL Try.f12 (Try.f12.body.getD .skip) [] (encAs [tS, tS] x) []).run = some ((fun x => tA (and ⟨x.1.1, x.1.2.1⟩ ⟨x.2.1.1, x.2.1.2.1⟩)) x, []) := by
  rintro ⟨⟨(a : BitVec 64), (b : BitVec 64), _⟩, ⟨(c : BitVec 64), (d : BitVec 64), _⟩, _⟩
  kernel_rfl
theorem ok_and : SummOk Kn Try.prog 12 (sumF [.any, .any] [tS, tS] (fun x => tA (and ⟨x.1.1, x.1.2.1⟩ ⟨x.2.1.1, x.2.1.2.1⟩))) := sumF_ok tok_of Try.checked.mixed Try.func12 (by kernel_rfl) (by rfl) 20 [] ev_and
noncomputable def L_and : List (Nat × Summ) := (12, (sumF [.any, .any] [tS, tS] (fun x => tA (and ⟨x.1.1, x.1.2.1⟩ ⟨x.2.1.1, x.2.1.2.1⟩)))) :: L_of
theorem tok_and : TOk Kn Try.prog (lk L_and) := lk_cons ok_and tok_of

theorem ev_or : ∀ x : denAs [tS, tS], (evalFnL Try.prog (lk L_and) 20 noL Try.f13 (Try.f13.body.getD .skip) [] (encAs [tS, tS] x) []).run = some ((fun x => tA (or ⟨x.1.1, x.1.2.1⟩ ⟨x.2.1.1, x.2.1.2.1⟩)) x, []) := by
  rintro ⟨⟨(a : BitVec 64), (b : BitVec 64), _⟩, ⟨(c : BitVec 64), (d : BitVec 64), _⟩, _⟩
  kernel_rfl
theorem ok_or : SummOk Kn Try.prog 13 (sumF [.any, .any] [tS, tS] (fun x => tA (or ⟨x.1.1, x.1.2.1⟩ ⟨x.2.1.1, x.2.1.2.1⟩))) := sumF_ok tok_and Try.checked.mixed Try.func13 (by kernel_rfl) (by rfl) 20 [] ev_or
noncomputable def L_or : List (Nat × Summ) := (13, (sumF [.any, .any] [tS, tS] (fun x => tA (or ⟨x.1.1, x.1.2.1⟩ ⟨x.2.1.1, x.2.1.2.1⟩)))) :: L_and
theorem tok_or : TOk Kn Try.prog (lk L_or) := lk_cons ok_or tok_and

theorem ev_xor : ∀ x : denAs [tS, tS], (evalFnL Try.prog (lk L_or) 20 noL Try.f14 (Try.f14.body.getD .skip) [] (encAs [tS, tS] x) []).run = some ((fun x => tA (xor ⟨x.1.1, x.1.2.1⟩ ⟨x.2.1.1, x.2.1.2.1⟩)) x, []) := by
  rintro ⟨⟨(a : BitVec 64), (b : BitVec 64), _⟩, ⟨(c : BitVec 64), (d : BitVec 64), _⟩, _⟩
  kernel_rfl
theorem ok_xor : SummOk Kn Try.prog 14 (sumF [.any, .any] [tS, tS] (fun x => tA (xor ⟨x.1.1, x.1.2.1⟩ ⟨x.2.1.1, x.2.1.2.1⟩))) := sumF_ok tok_or Try.checked.mixed Try.func14 (by kernel_rfl) (by rfl) 20 [] ev_xor
noncomputable def L_xor : List (Nat × Summ) := (14, (sumF [.any, .any] [tS, tS] (fun x => tA (xor ⟨x.1.1, x.1.2.1⟩ ⟨x.2.1.1, x.2.1.2.1⟩)))) :: L_or
theorem tok_xor : TOk Kn Try.prog (lk L_xor) := lk_cons ok_xor tok_or

theorem ok_times : SummOk Kn Try.prog 26 (sumE [.any, .any] false Try.prog (lk L_xor) 20 Try.f26 (Try.f26.body.getD .skip) []) := sumE_ok tok_xor Try.checked.mixed Try.func26 (by kernel_rfl) (by rfl) 20 []
noncomputable def L_times : List (Nat × Summ) := (26, (sumE [.any, .any] false Try.prog (lk L_xor) 20 Try.f26 (Try.f26.body.getD .skip) [])) :: L_xor
theorem tok_times : TOk Kn Try.prog (lk L_times) := lk_cons ok_times tok_xor

def ea_lsh : (BitVec 64) × (BitVec 64) × Int → denAs [tS, iS] := fun ⟨v, m, n⟩ => ((v, m, ()), n, ())
def eo_lsh : (BitVec 64) × (BitVec 64) × Int → denObs [] := fun ⟨v, m, n⟩ => ()
noncomputable def E_lsh : (BitVec 64) × (BitVec 64) × Int → Tree (AV × List Ob) := fun ⟨v, m, n⟩ => 
Tree.ite (decide ((IntKind.i64.wrap (n.tmod (64 : Int) + (64 : Int))).tmod (64 : Int) < (0 : Int))) Tree.fail (Tree.ite (decide ((IntKind.i64.wrap (n.tmod (64 : Int) + (64 : Int))).tmod (64 : Int) < (0 : Int))) Tree.fail (Tree.ret (AV.p (Part.many [Cell.w IntKind.u64 ((right { v := v, m := m }).v <<< ((IntKind.i64.wrap (n.tmod (64 : Int) + (64 : Int))).tmod (64 : Int)).toNat), Cell.w IntKind.u64 ((right { v := v, m := m }).m <<< ((IntKind.i64.wrap (n.tmod (64 : Int) + (64 : Int))).tmod (64 : Int)).toNat)]), [])))
noncomputable def F_lsh : denAs [tS, iS] → denObs [] → Tree (AV × List Ob) := fun x y => match x, y with
  | ((v, m, ()), n, ()), () => .ret (tA (lsh ⟨v, m⟩ n), [])
theorem ev_lsh : ∀ a, (evalFnL Try.prog (lk L_times) 20 noL Try.f15 (Try.f15.body.getD .skip) [] (encAs [tS, iS] (ea_lsh a)) (encOs [] (eo_lsh a))).run = (E_lsh a).run := by
  rintro ⟨v, m, n⟩
  kernel_rfl
theorem fe_lsh : ∀ a y, (F_lsh (ea_lsh a) (eo_lsh a)).run = some y → (E_lsh a).run = some y := by
  rintro ⟨v, m, n⟩ y hy
  rw [← hy]
  dsimp only [E_lsh]
  exact (goF (times_neg (n := n) (m := 64) (by decide) (by decide))).trans ((goF (times_neg (n := n) (m := 64) (by decide) (by decide))).trans rfl)
theorem ok_lsh : SummOk Kn Try.prog 15 (sumT [.any, .any] false [tS, iS] [] F_lsh) := sumT_view tok_times Try.checked.mixed Try.func15 (by kernel_rfl) (by rfl) 20 [] ea_lsh eo_lsh
  (by rintro ⟨⟨v, m, ⟨⟩⟩, n, ⟨⟩⟩ ⟨⟩; exact ⟨(v, m, n), rfl, rfl⟩) noL 0 (by rintro ⟨⟩; rfl) (noL_ok _ _ _ _ _ _) E_lsh ev_lsh fe_lsh
noncomputable def L_lsh : List (Nat × Summ) := (15, (sumT [.any, .any] false [tS, iS] [] F_lsh)) :: L_times
theorem tok_lsh : TOk Kn Try.prog (lk L_lsh) := lk_cons ok_lsh tok_times

def ea_rsh : (BitVec 64) × (BitVec 64) × Int → denAs [tS, iS] := fun ⟨v, m, n⟩ => ((v, m, ()), n, ())
def eo_rsh : (BitVec 64) × (BitVec 64) × Int → denObs [] := fun ⟨v, m, n⟩ => ()
noncomputable def E_rsh : (BitVec 64) × (BitVec 64) × Int → Tree (AV × List Ob) := fun ⟨v, m, n⟩ => 
Tree.ite (decide ((IntKind.i64.wrap (n.tmod (64 : Int) + (64 : Int))).tmod (64 : Int) < (0 : Int))) Tree.fail (Tree.ite (decide ((IntKind.i64.wrap (n.tmod (64 : Int) + (64 : Int))).tmod (64 : Int) < (0 : Int))) Tree.fail (Tree.ret (AV.p (Part.many [Cell.w IntKind.u64 ((right { v := v, m := m }).v >>> ((IntKind.i64.wrap (n.tmod (64 : Int) + (64 : Int))).tmod (64 : Int)).toNat), Cell.w IntKind.u64 ((right { v := v, m := m }).m >>> ((IntKind.i64.wrap (n.tmod (64 : Int) + (64 : Int))).tmod (64 : Int)).toNat)]), [])))
noncomputable def F_rsh : denAs [tS, iS] → denObs [] → Tree (AV × List Ob) := fun x y => match x, y with
  | ((v, m, ()), n, ()), () => .ret (tA (rsh ⟨v, m⟩ n), [])
theorem ev_rsh : ∀ a, (evalFnL Try.prog (lk L_lsh) 20 noL Try.f16 (Try.f16.body.getD .skip) [] (encAs [tS, iS] (ea_rsh a)) (encOs [] (eo_rsh a))).run = (E_rsh a).run := by
  rintro ⟨v, m, n⟩
  kernel_rfl
theorem fe_rsh : ∀ a y, (F_rsh (ea_rsh a) (eo_rsh a)).run = some y → (E_rsh a).run = some y := by
  rintro ⟨v, m, n⟩ y hy
  rw [← hy]
  dsimp only [E_rsh]
  exact (goF (times_neg (n := n) (m := 64) (by decide) (by decide))).trans ((goF (times_neg (n := n) (m := 64) (by decide) (by decide))).trans rfl)
theorem ok_rsh : SummOk Kn Try.prog 16 (sumT [.any, .any] false [tS, iS] [] F_rsh) := sumT_view tok_lsh Try.checked.mixed Try.func16 (by kernel_rfl) (by rfl) 20 [] ea_rsh eo_rsh
  (by rintro ⟨⟨v, m, ⟨⟩⟩, n, ⟨⟩⟩ ⟨⟩; exact ⟨(v, m, n), rfl, rfl⟩) noL 0 (by rintro ⟨⟩; rfl) (noL_ok _ _ _ _ _ _) E_rsh ev_rsh fe_rsh
noncomputable def L_rsh : List (Nat × Summ) := (16, (sumT [.any, .any] false [tS, iS] [] F_rsh)) :: L_lsh
theorem tok_rsh : TOk Kn Try.prog (lk L_rsh) := lk_cons ok_rsh tok_lsh

def ea_arsh : (BitVec 64) × (BitVec 64) × Int × Bool → denAs [tS, iS, bS] := fun ⟨v, m, n, w⟩ => ((v, m, ()), n, w, ())
def eo_arsh : (BitVec 64) × (BitVec 64) × Int × Bool → denObs [] := fun ⟨v, m, n, w⟩ => ()
noncomputable def E_arsh : (BitVec 64) × (BitVec 64) × Int × Bool → Tree (AV × List Ob) := fun ⟨v, m, n, w⟩ => 
Tree.ite w (Tree.ite (decide ((IntKind.i64.wrap (n.tmod (64 : Int) + (64 : Int))).tmod (64 : Int) < (0 : Int))) Tree.fail (Tree.ite (decide ((IntKind.i64.wrap (n.tmod (64 : Int) + (64 : Int))).tmod (64 : Int) < (0 : Int))) Tree.fail (Tree.ret (AV.p (Part.many [Cell.w IntKind.u64 (BitVec.ofInt (64 : Nat) ((right { v := v, m := m }).v.toInt.fdiv ((2 : Int) ^ min ((IntKind.i64.wrap (n.tmod (64 : Int) + (64 : Int))).tmod (64 : Int)).toNat (64 : Nat)))), Cell.w IntKind.u64 (BitVec.ofInt (64 : Nat) ((right { v := v, m := m }).m.toInt.fdiv ((2 : Int) ^ min ((IntKind.i64.wrap (n.tmod (64 : Int) + (64 : Int))).tmod (64 : Int)).toNat (64 : Nat))))]), [])))) (Tree.ite (decide ((IntKind.i64.wrap (n.tmod (32 : Int) + (32 : Int))).tmod (32 : Int) < (0 : Int))) Tree.fail (Tree.ite (decide ((IntKind.i64.wrap (n.tmod (32 : Int) + (32 : Int))).tmod (32 : Int) < (0 : Int))) Tree.fail (Tree.ret (AV.p (Part.many [Cell.w IntKind.u64 (BitVec.setWidth (64 : Nat) (BitVec.ofInt (32 : Nat) ((IntKind.i32.wrap (↑(right { v := v, m := m }).v.toNat : Int)).fdiv ((2 : Int) ^ min ((IntKind.i64.wrap (n.tmod (32 : Int) + (32 : Int))).tmod (32 : Int)).toNat (32 : Nat))))), Cell.w IntKind.u64 (BitVec.setWidth (64 : Nat) (BitVec.ofInt (32 : Nat) ((IntKind.i32.wrap (↑(right { v := v, m := m }).m.toNat : Int)).fdiv ((2 : Int) ^ min ((IntKind.i64.wrap (n.tmod (32 : Int) + (32 : Int))).tmod (32 : Int)).toNat (32 : Nat)))))]), []))))
noncomputable def F_arsh : denAs [tS, iS, bS] → denObs [] → Tree (AV × List Ob) := fun x y => match x, y with
  | ((v, m, ()), n, w, ()), () => .ret (tA (arsh ⟨v, m⟩ n w), [])
theorem ev_arsh : ∀ a, (evalFnL Try.prog (lk L_rsh) 20 noL Try.f17 (Try.f17.body.getD .skip) [] (encAs [tS, iS, bS] (ea_arsh a)) (encOs [] (eo_arsh a))).run = (E_arsh a).run := by
  rintro ⟨v, m, n, w⟩
  kernel_rfl
theorem fe_arsh : ∀ a y, (F_arsh (ea_arsh a) (eo_arsh a)).run = some y → (E_arsh a).run = some y := by
  rintro ⟨v, m, n, w⟩ y hy
  rw [← hy]
  dsimp only [E_arsh]
  cases w with
  | true => exact (goT rfl).trans ((goF (times_neg (n := n) (m := 64) (by decide) (by decide))).trans ((goF (times_neg (n := n) (m := 64) (by decide) (by decide))).trans rfl))
  | false => exact (goF rfl).trans ((goF (times_neg (n := n) (m := 32) (by decide) (by decide))).trans ((goF (times_neg (n := n) (m := 32) (by decide) (by decide))).trans rfl))
theorem ok_arsh : SummOk Kn Try.prog 17 (sumT [.any, .any, .any] false [tS, iS, bS] [] F_arsh) := sumT_view tok_rsh Try.checked.mixed Try.func17 (by kernel_rfl) (by rfl) 20 [] ea_arsh eo_arsh
  (by rintro ⟨⟨v, m, ⟨⟩⟩, n, w, ⟨⟩⟩ ⟨⟩; exact ⟨(v, m, n, w), rfl, rfl⟩) noL 0 (by rintro ⟨⟩; rfl) (noL_ok _ _ _ _ _ _) E_arsh ev_arsh fe_arsh
noncomputable def L_arsh : List (Nat × Summ) := (17, (sumT [.any, .any, .any] false [tS, iS, bS] [] F_arsh)) :: L_rsh
theorem tok_arsh : TOk Kn Try.prog (lk L_arsh) := lk_cons ok_arsh tok_rsh

noncomputable abbrev c_tight : Code := Try.f8.body.getD .skip
def p_tight : List Nat := [0, 1, 0, 1, 1]
def sh_tight : Shape := ⟨[(0, .c (.d u64s)), (2, .c (.p 0 0)), (3, .c (.w .u64)), (4, .c (.i .i64))], [.lit [.w .u64, .w .u64]]⟩
@[reducible] def A_tight : Type := U64s × (BitVec 64) × Int × (BitVec 64) × (BitVec 64)
def e_tight : A_tight → sh_tight.den := fun ⟨l, mask, i, x, y⟩ => ((l, (), mask, i, ()), ((x, y, ()), ()))
def v_tight : sh_tight.den → A_tight := fun d => match d with
  | ((l, (), mask, i, ()), ((x, y, ()), ())) => (l, mask, i, x, y)
def I_tight : A_tight → Prop := fun ⟨l, mask, i, x, y⟩ => 0 < l.length ∧ l.length ≤ 1000000 ∧ 0 ≤ i
noncomputable def G_tight : A_tight → Tree (Ex × St) := fun ⟨l, mask, i, x, y⟩ => .ret (.exit 0, ⟨[(0, .p (.one (.d u64s l))), (2, .p (.one (.p 0 0))), (3, .p (.one (.w .u64 (orX (head0 l) (l.drop i.toNat) mask))))], [(0, .lit [.w .u64 x, .w .u64 y])], 1⟩)
noncomputable def orc_tight : Orc := ⟨sh_tight, [], [0, 2, 3], [], fun d => ckP (I_tight (v_tight d)) (G_tight (v_tight d))⟩
noncomputable def LT_tight : LT := oneL p_tight orc_tight (noL)
noncomputable def T_tight : U64s × (BitVec 64) × Int × (BitVec 64) × (BitVec 64) → Tree (A_tight ⊕ (Ex × St)) := fun ⟨l, mask, i, x, y⟩ => 
Tree.ite (decide (i < (↑(List.length l) : Int))) (Tree.ite (decide ((0 : Int) ≤ i) && decide (i < (↑(List.length l) : Int))) (Tree.ite (true && decide ((0 : Int) < (↑(List.length l) : Int))) (Tree.ret (Sum.inl (l, mask ||| (List.getD l i.toNat (BitVec.ofNat (64 : Nat) (0 : Nat), ())).fst ^^^ (List.getD l (0 : Nat) (BitVec.ofNat (64 : Nat) (0 : Nat), ())).fst, IntKind.i64.wrap (i + (1 : Int)), x, y))) Tree.fail) Tree.fail) (Tree.ret (Sum.inr (Ex.exit (0 : Nat), { env := [((0 : Nat), AV.p (Part.one (Cell.d u64s l))), ((2 : Nat), AV.p (Part.one (Cell.p (0 : Nat) (0 : Nat)))), ((3 : Nat), AV.p (Part.one (Cell.w IntKind.u64 mask)))], hp := [((0 : Nat), Ob.lit [Cell.w IntKind.u64 x, Cell.w IntKind.u64 y])], nx := (1 : Nat) })))
theorem turn_tight : ∀ a : A_tight, (turnT 0 orc_tight (evalCode Try.prog (lk L_arsh) Try.f8.ntmps 0 20 LT_tight (bodyAt c_tight p_tight) false (0 :: p_tight)) (sh_tight.enc (e_tight a))).run = ((T_tight a).bind fun s => .ret (turnV sh_tight e_tight s)).run := by
  rintro ⟨l, mask, i, x, y⟩
  kernel_rfl

def μ_tight : A_tight → Nat := fun ⟨l, mask, i, x, y⟩ => l.length - i.toNat
theorem step_tight : ∀ a : A_tight, I_tight a → (∃ a', (T_tight a).run = some (.inl a') ∧ I_tight a' ∧ μ_tight a' < μ_tight a ∧ (G_tight a').run = (G_tight a).run) ∨ (∃ y, (T_tight a).run = some (.inr y) ∧ (G_tight a).run = some y ∧ ((∃ id, y.1 = .exit id) ∨ y.1 = .ret)) := by
  rintro ⟨l, mask, i, x, y⟩ ⟨h1, h2, h3⟩
  simp only [T_tight]
  by_cases hi : i < l.length
  · left
    rw [goTd hi, goTa ⟨h3, hi⟩, goT (by rw [Bool.true_and, decide_eq_true_eq]; omega), wrap64 (n := i + 1) (by omega) (by omega)]
    refine ⟨_, rfl, ⟨h1, h2, by omega⟩, by simp only [μ_tight]; omega, ?_⟩
    simp only [G_tight, Tree.run]
    rw [toNat_succ h3, drop_cons (l := l) (i := i.toNat) (by omega) (BitVec.ofNat 64 0, ())]; rfl
  · right
    rw [goFd hi]
    refine ⟨_, rfl, ?_, .inl ⟨0, rfl⟩⟩
    simp only [G_tight, Tree.run]
    rw [drop_end (by omega)]; rfl
theorem lok_tight : LOk Try.prog (lk L_arsh) Try.f8.ntmps 0 20 LT_tight c_tight := lok_view (noL_ok2 _ _ _ _ _ _ _) (by kernel_rfl) e_tight (by rintro ⟨⟨l, ⟨⟩, mask, i, ⟨⟩⟩, ⟨⟨x, y, ⟨⟩⟩, ⟨⟩⟩⟩; exact ⟨(l, mask, i, x, y), rfl⟩) T_tight turn_tight I_tight G_tight (by rintro ⟨l, mask, i, x, y⟩; rfl) μ_tight step_tight
def ea_tight : U64s → denAs [.c (.d u64s)] := fun l => (l, ())
def eo_tight : U64s → denObs [] := fun l => ()
noncomputable def E_tight : U64s → Tree (AV × List Ob) := fun l => 
Tree.ite (decC ((0 : Nat) < List.length l ∧ List.length l ≤ (1000000 : Nat) ∧ (0 : Int) ≤ (1 : Int))) (Tree.ite (true && decide ((0 : Int) < (↑(List.length l) : Int))) (Tree.ret (AV.p (Part.many [Cell.w IntKind.u64 ((List.getD l (0 : Nat) (BitVec.ofNat (64 : Nat) (0 : Nat), ())).fst &&& ~~~orX (head0 l) (List.drop (1 : Nat) l) (BitVec.ofInt (64 : Nat) (0 : Int))), Cell.w IntKind.u64 (orX (head0 l) (List.drop (1 : Nat) l) (BitVec.ofInt (64 : Nat) (0 : Int)))]), [])) Tree.fail) Tree.fail
noncomputable def F_tight : denAs [.c (.d u64s)] → denObs [] → Tree (AV × List Ob) := fun x y => match x, y with
  | (l, ()), () => ckP (0 < l.length ∧ l.length ≤ 1000000) (.ret (tA (tightOf l), []))
theorem ev_tight : ∀ a, (evalFnL Try.prog (lk L_arsh) 20 LT_tight Try.f8 c_tight [] (encAs [.c (.d u64s)] (ea_tight a)) (encOs [] (eo_tight a))).run = (E_tight a).run := by
  rintro l
  kernel_rfl
theorem fe_tight : ∀ a y, (F_tight (ea_tight a) (eo_tight a)).run = some y → (E_tight a).run = some y := by
  rintro l y hy
  obtain ⟨⟨h1, h2⟩, hy⟩ := ckP_run hy
  rw [← hy]
  refine (goT (decP ⟨h1, h2, by decide⟩)).trans ((goT ?_).trans rfl)
  rw [Bool.true_and]
  exact decide_eq_true (Int.natCast_pos.2 h1)
theorem ok_tight : SummOk Kn Try.prog 8 (sumT [.dp u64s] false [.c (.d u64s)] [] F_tight) := sumT_view tok_arsh Try.checked.mixed Try.func8 (by kernel_rfl) (by rfl) 20 [] ea_tight eo_tight
  (by rintro ⟨l, ⟨⟩⟩ ⟨⟩; exact ⟨l, rfl, rfl⟩) LT_tight 0 (by rintro ⟨⟩; rfl) lok_tight E_tight ev_tight fe_tight
noncomputable def L_tight : List (Nat × Summ) := (8, (sumT [.dp u64s] false [.c (.d u64s)] [] F_tight)) :: L_arsh
theorem tok_tight : TOk Kn Try.prog (lk L_tight) := lk_cons ok_tight tok_arsh

noncomputable abbrev c_all : Code := Try.f9.body.getD .skip
def p_all : List Nat := [0, 1, 1, 1]
def sh_all : Shape := ⟨[(1, .c (.p 0 0)), (3, .c (.h 1)), (4, .c (.w .u64))], [.lit [.w .u64, .w .u64], .row u64s]⟩
@[reducible] def A_all : Type := (BitVec 64) × (BitVec 64) × (BitVec 64) × U64s
def e_all : A_all → sh_all.den := fun ⟨v, m, s, o⟩ => (((), (), s, ()), ((v, m, ()), o, ()))
def v_all : sh_all.den → A_all := fun d => match d with
  | (((), (), s, ()), ((v, m, ()), o, ())) => (v, m, s, o)
def I_all : A_all → Prop := fun ⟨v, m, s, o⟩ => o.length + (downs v m s).length ≤ 1000000
noncomputable def G_all : A_all → Tree (Ex × St) := fun ⟨v, m, s, o⟩ => .ret (.ret, ⟨[(2, .p (.one (.h 0)))], [(0, .row u64s (o ++ downs v m s))], 1⟩)
noncomputable def orc_all : Orc := ⟨sh_all, [(3, u64s)], [2], [], fun d => ckP (I_all (v_all d)) (G_all (v_all d))⟩
noncomputable def LT_all : LT := oneL p_all orc_all (noL)
noncomputable def T_all : (BitVec 64) × (BitVec 64) × (BitVec 64) × U64s → Tree (A_all ⊕ (Ex × St)) := fun ⟨v, m, s, o⟩ => 
Tree.ite (bytesOk (List.length o + (1 : Nat)) (8 : Nat) && (List.length o + (1 : Nat)).ble (140737488355328 : Nat)) (Tree.ite (s == BitVec.ofInt (64 : Nat) (0 : Int)) (Tree.ret (Sum.inr (Ex.ret, { env := [((2 : Nat), AV.p (Part.one (Cell.h (0 : Nat))))], hp := [((0 : Nat), Ob.row u64s (o ++ [(v ||| s, ())]))], nx := (1 : Nat) }))) (Tree.ret (Sum.inl (v, m, s - BitVec.ofInt (64 : Nat) (1 : Int) &&& m, o ++ [(v ||| s, ())])))) Tree.fail
theorem turn_all : ∀ a : A_all, (turnT 0 orc_all (evalCode Try.prog (lk L_tight) Try.f9.ntmps 0 20 LT_all (bodyAt c_all p_all) false (0 :: p_all)) (sh_all.enc (e_all a))).run = ((T_all a).bind fun s => .ret (turnV sh_all e_all s)).run := by
  rintro ⟨v, m, s, o⟩
  kernel_rfl

def μ_all : A_all → Nat := fun ⟨v, m, s, o⟩ => s.toNat
theorem step_all : ∀ a : A_all, I_all a → (∃ a', (T_all a).run = some (.inl a') ∧ I_all a' ∧ μ_all a' < μ_all a ∧ (G_all a').run = (G_all a).run) ∨ (∃ y, (T_all a).run = some (.inr y) ∧ (G_all a).run = some y ∧ ((∃ id, y.1 = .exit id) ∨ y.1 = .ret)) := by
  rintro ⟨v, m, s, o⟩ h1
  change o.length + (downs v m s).length ≤ 1000000 at h1
  simp only [T_all]
  by_cases hs : s = BitVec.ofInt 64 0
  · right
    subst hs
    rw [downs_zero] at h1
    simp only [List.length_cons, List.length_nil] at h1
    rw [goTb ⟨by omega, by omega⟩, goT (by simp)]
    exact ⟨_, rfl, rfl, .inr rfl⟩
  · left
    have hd := downs_step (v := v) (m := m) hs
    rw [hd, List.length_cons] at h1
    rw [goTb ⟨by omega, by omega⟩, goF (by simpa using hs)]
    refine ⟨_, rfl, ?_, next_lt hs, ?_⟩
    · simp only [I_all, List.length_append, List.length_cons, List.length_nil]; omega
    · simp only [G_all, Tree.run]
      rw [hd, List.append_assoc]; rfl
theorem lok_all : LOk Try.prog (lk L_tight) Try.f9.ntmps 0 20 LT_all c_all := lok_view (noL_ok2 _ _ _ _ _ _ _) (by kernel_rfl) e_all (by rintro ⟨⟨⟨⟩, ⟨⟩, s, ⟨⟩⟩, ⟨⟨v, m, ⟨⟩⟩, o, ⟨⟩⟩⟩; exact ⟨(v, m, s, o), rfl⟩) T_all turn_all I_all G_all (by rintro ⟨v, m, s, o⟩; rfl) μ_all step_all
def ea_all : (BitVec 64) × (BitVec 64) → denAs [tS] := fun ⟨v, m⟩ => ((v, m, ()), ())
def eo_all : (BitVec 64) × (BitVec 64) → denObs [] := fun ⟨v, m⟩ => ()
noncomputable def E_all : (BitVec 64) × (BitVec 64) → Tree (AV × List Ob) := fun ⟨v, m⟩ => 
Tree.ite (decC ((0 : Nat) + List.length (downs v m m) ≤ (1000000 : Nat))) (Tree.ret (AV.p (Part.one (Cell.h (0 : Nat))), [Ob.row u64s ([] ++ downs v m m)])) Tree.fail
noncomputable def F_all : denAs [tS] → denObs [] → Tree (AV × List Ob) := fun x y => match x, y with
  | ((v, m, ()), ()), () => ckP ((downs v m m).length ≤ 1000000) (.ret (.p (.one (.h 0)), [.row u64s (downs v m m)]))
theorem ev_all : ∀ a, (evalFnL Try.prog (lk L_tight) 20 LT_all Try.f9 c_all [(0, u64s)] (encAs [tS] (ea_all a)) (encOs [] (eo_all a))).run = (E_all a).run := by
  rintro ⟨v, m⟩
  kernel_rfl
theorem fe_all : ∀ a y, (F_all (ea_all a) (eo_all a)).run = some y → (E_all a).run = some y := by
  rintro ⟨v, m⟩ y hy
  obtain ⟨h1, hy⟩ := ckP_run hy
  rw [← hy]
  exact (goT (decP (by omega))).trans rfl
theorem ok_all : SummOk Kn Try.prog 9 (sumT [.any] false [tS] [] F_all) := sumT_view tok_tight Try.checked.mixed Try.func9 (by kernel_rfl) (by rfl) 20 [(0, u64s)] ea_all eo_all
  (by rintro ⟨⟨v, m, ⟨⟩⟩, ⟨⟩⟩ ⟨⟩; exact ⟨(v, m), rfl, rfl⟩) LT_all 0 (by rintro ⟨⟩; rfl) lok_all E_all ev_all fe_all
noncomputable def L_all : List (Nat × Summ) := (9, (sumT [.any] false [tS] [] F_all)) :: L_tight
theorem tok_all : TOk Kn Try.prog (lk L_all) := lk_cons ok_all tok_tight

end Go.Proofs.Ytoljppjibhnndaa
