/-
  How deep calls go, on the rows of FlowDeep: the small contracts (written by our own gen_fly.py).
-/
import Derived.Test.YtdbnbijillmlcaaFlA
import Derived.Test.YtdbnbijillmlcaaSzAI
import Derived.Test.YtdbnbijillmlcaaFlV
import Derived.Test.YtdbnbijillmlcaaObT
namespace Go.Proofs.Ytdbnbijillmlcaa
open Go Go.Sy Go.Sz Go.In Go.Fl Go.Proofs.Ytdbnbijillmlcaa
set_option linter.unusedVariables false
set_option linter.unusedSimpArgs false
set_option linter.constructorNameAsVariable false
set_option maxRecDepth 100000

def idxP : Parts → Int → Int → Int
  | [], _, _ => -1
  | x :: l, v, k => bif x.1 == v then k else idxP l v (k + 1)
theorem idxP_drop {p : Parts} {i : Nat} (h : i < p.length) (v : Int) (k : Int) : idxP (p.drop i) v k = bif (p.getD i (0, 0, ())).1 == v then k else idxP (p.drop (i + 1)) v (k + 1) := by
  rw [List.drop_eq_getElem_cons h, List.getD_eq_getElem?_getD, List.getElem?_eq_getElem h]; rfl
noncomputable def okR (l : Slots) : Bool := decide (l.length ≤ 1000) && (((chk l).2 == 0) && decide (reachL l = List.replicate l.length (true, ())))
def partsD : Nat → Int → Parts
  | 0, _ => []
  | n + 1, k => (k, k + 2, ()) :: partsD n (k + 2)
noncomputable def okS (l : Slots) : Bool := decide (l.length ≤ 140737488355328) && decide (sbs l = (partsD (l.length / 2) 0, 0, 0))
theorem ok_fc1 : SummOk Kn Try.prog 33 (sumE [.any, .any] false Try.prog (lk L_Rch) 20 Try.f33 (Try.f33.body.getD .skip) []) := sumE_ok tok_Rch Try.checked.mixed Try.func33 (by kernel_rfl) (by rfl) 20 []
noncomputable def L_fc1 : List (Nat × Summ) := (33, (sumE [.any, .any] false Try.prog (lk L_Rch) 20 Try.f33 (Try.f33.body.getD .skip) [])) :: L_Rch
theorem tok_fc1 : TOk Kn Try.prog (lk L_fc1) := lk_cons ok_fc1 tok_Rch

noncomputable abbrev c_idxf : Code := Try.f32.body.getD .skip
def p_idxf : List Nat := [0, 1, 0, 1]
def sh_idxf : Shape := ⟨[(0, .c (.d partsT)), (1, .c (.clo 33 [(0, 0)])), (7, .c (.i .i64)), (8, .c (.i .i64))], [.lit [.i .i64]]⟩
@[reducible] def A_idxf : Type := Parts × Int × Int × Int
def e_idxf : A_idxf → sh_idxf.den := fun ⟨p, v, n, i⟩ => ((p, (), n, i, ()), ((v, ()), ()))
def v_idxf : sh_idxf.den → A_idxf := fun d => match d with
  | ((p, (), n, i, ()), ((v, ()), ())) => (p, v, n, i)
def I_idxf : A_idxf → Prop := fun ⟨p, v, n, i⟩ => 0 ≤ i ∧ n = p.length ∧ p.length ≤ 1000
noncomputable def G_idxf : A_idxf → Tree (Ex × St) := fun ⟨p, v, n, i⟩ => .ite (decide (idxP (p.drop i.toNat) v i = -1)) (.ret (.exit 0, ⟨[], [(0, .lit [.v (.int .i64 v)])], 1⟩)) (.ret (.ret, ⟨[(4, AV.c (.v (.int .i64 (idxP (p.drop i.toNat) v i))))], [(0, .lit [.v (.int .i64 v)])], 1⟩))
noncomputable def orc_idxf : Orc := ⟨sh_idxf, [], [4], [], fun d => ckP (I_idxf (v_idxf d)) (G_idxf (v_idxf d))⟩
noncomputable def LT_idxf : LT := oneL p_idxf orc_idxf (noL)
noncomputable def T_idxf : Parts × Int × Int × Int → Tree (A_idxf ⊕ (Ex × St)) := fun ⟨p, v, n, i⟩ => 
Tree.ite (decide (i < n)) (Tree.ite (decide ((0 : Int) ≤ i) && decide (i < (↑(List.length p) : Int))) (Tree.ite ((List.getD p i.toNat ((0 : Int), (0 : Int), ())).fst == v) (Tree.ret (Sum.inr (Ex.ret, { env := [((4 : Nat), AV.p (Part.one (Cell.v (Value.int IntKind.i64 i))))], hp := [((0 : Nat), Ob.lit [Cell.v (Value.int IntKind.i64 v)])], nx := (1 : Nat) }))) (Tree.ret (Sum.inl (p, v, n, IntKind.i64.wrap (i + (1 : Int)))))) Tree.fail) (Tree.ret (Sum.inr (Ex.exit (0 : Nat), { env := [], hp := [((0 : Nat), Ob.lit [Cell.v (Value.int IntKind.i64 v)])], nx := (1 : Nat) })))
theorem turn_idxf : ∀ a : A_idxf, (turnT 1 orc_idxf (evalCode Try.prog (lk L_fc1) Try.f32.ntmps 1 20 LT_idxf (bodyAt c_idxf p_idxf) false (0 :: p_idxf)) (sh_idxf.enc (e_idxf a))).run = ((T_idxf a).bind fun s => .ret (turnV sh_idxf e_idxf s)).run := by
  rintro ⟨p, v, n, i⟩
  kernel_rfl

def μ_idxf : A_idxf → Nat := fun ⟨p, v, n, i⟩ => (n - i).toNat
theorem step_idxf : ∀ a : A_idxf, I_idxf a → (∃ a', (T_idxf a).run = some (.inl a') ∧ I_idxf a' ∧ μ_idxf a' < μ_idxf a ∧ (G_idxf a').run = (G_idxf a).run) ∨ (∃ y, (T_idxf a).run = some (.inr y) ∧ (G_idxf a).run = some y ∧ ((∃ id, y.1 = .exit id) ∨ y.1 = .ret)) := by
  rintro ⟨p, v, n, i⟩ ⟨h1, h2, h3⟩
  simp only [T_idxf]
  by_cases hi : i < n
  · rw [goTd hi, goTa ⟨h1, by omega⟩, wrap64 (n := i + 1) (by omega) (by omega)]
    have hd := idxP_drop (p := p) (i := i.toNat) (by omega) v i
    rw [show i.toNat + 1 = (i + 1).toNat by omega] at hd
    cases he : (p.getD i.toNat (0, 0, ())).1 == v with
    | true =>
      right
      rw [he] at hd
      have hd' : idxP (p.drop i.toNat) v i = i := hd
      refine ⟨_, rfl, ?_, .inr rfl⟩
      simp only [G_idxf]
      rw [hd', goFd (show ¬ i = -1 by omega)]; rfl
    | false =>
      left
      rw [he] at hd
      have hd' : idxP (p.drop i.toNat) v i = idxP (p.drop (i + 1).toNat) v (i + 1) := hd
      refine ⟨_, rfl, ⟨by omega, h2, h3⟩, by simp only [μ_idxf]; omega, ?_⟩
      simp only [G_idxf]
      rw [hd']
  · right
    rw [goFd hi]
    refine ⟨_, rfl, ?_, .inl ⟨0, rfl⟩⟩
    simp only [G_idxf]
    rw [List.drop_eq_nil_of_le (by omega : p.length ≤ i.toNat)]; rfl
theorem lok_idxf : LOk Try.prog (lk L_fc1) Try.f32.ntmps 1 20 LT_idxf c_idxf := lok_view (noL_ok2 _ _ _ _ _ _ _) (by kernel_rfl) e_idxf (by rintro ⟨⟨p, ⟨⟩, n, i, ⟨⟩⟩, ⟨⟨v, ⟨⟩⟩, ⟨⟩⟩⟩; exact ⟨(p, v, n, i), rfl⟩) T_idxf turn_idxf I_idxf G_idxf (by rintro ⟨p, v, n, i⟩; rfl) μ_idxf step_idxf
def ea_idxf : Parts × Int → denAs [.c (.d partsT), .c (.clo 33 [(0, 0)])] := fun ⟨p, v⟩ => (p, (), ())
def eo_idxf : Parts × Int → denObs [.lit [.i .i64]] := fun ⟨p, v⟩ => ((v, ()), ())
noncomputable def E_idxf : Parts × Int → Tree (AV × List Ob) := fun ⟨p, v⟩ => 
Tree.ite (decC ((0 : Int) ≤ (0 : Int) ∧ (↑(List.length p) : Int) = (↑(List.length p) : Int) ∧ List.length p ≤ (1000 : Nat))) (Tree.ite (decide (idxP (List.drop (0 : Nat) p) v (0 : Int) = (-1 : Int))) (Tree.ret (AV.p (Part.one (Cell.v (Value.int IntKind.i64 (-1 : Int)))), [Ob.lit [Cell.v (Value.int IntKind.i64 v)]])) (Tree.ret (AV.p (Part.one (Cell.v (Value.int IntKind.i64 (idxP (List.drop (0 : Nat) p) v (0 : Int))))), [Ob.lit [Cell.v (Value.int IntKind.i64 v)]]))) Tree.fail
noncomputable def F_idxf : denAs [.c (.d partsT), .c (.clo 33 [(0, 0)])] → denObs [.lit [.i .i64]] → Tree (AV × List Ob) := fun x y => match x, y with
  | (p, (), ()), ((v, ()), ()) => .ite (decide (p.length ≤ 1000)) (.ret (AV.c (.v (.int .i64 (idxP p v 0))), [.lit [.v (.int .i64 v)]])) .fail
theorem ev_idxf : ∀ a, (evalFnL Try.prog (lk L_fc1) 20 LT_idxf Try.f32 c_idxf [] (encAs [.c (.d partsT), .c (.clo 33 [(0, 0)])] (ea_idxf a)) (encOs [.lit [.i .i64]] (eo_idxf a))).run = (E_idxf a).run := by
  rintro ⟨p, v⟩
  kernel_rfl
theorem fe_idxf : ∀ a y, (F_idxf (ea_idxf a) (eo_idxf a)).run = some y → (E_idxf a).run = some y := by
  rintro ⟨p, v⟩ y h
  have h1 : p.length ≤ 1000 := by
    cases hb : decide (p.length ≤ 1000) with
    | true => exact of_decide_eq_true hb
    | false => exact absurd ((goF hb).symm.trans h) (by intro h; cases h)
  replace h := (goTd h1).symm.trans h
  rw [← h]
  dsimp only [E_idxf]
  refine (ckP_true ⟨Int.le_refl 0, rfl, h1⟩ _).trans ?_
  change (Tree.ite (decide (idxP p v 0 = -1)) _ _).run = some (AV.c (.v (.int .i64 (idxP p v 0))), [Ob.lit [Cell.v (.int .i64 v)]])
  by_cases he : idxP p v 0 = -1
  · rw [goTd he, he]; rfl
  · rw [goFd he]; rfl
theorem ok_idxf : SummOk Kn Try.prog 32 (sumT [.dp partsT, .any] false [.c (.d partsT), .c (.clo 33 [(0, 0)])] [.lit [.i .i64]] F_idxf) := sumT_view tok_fc1 Try.checked.mixed Try.func32 (by kernel_rfl) (by rfl) 20 [] ea_idxf eo_idxf
  (by rintro ⟨p, ⟨⟩, ⟨⟩⟩ ⟨⟨v, ⟨⟩⟩, ⟨⟩⟩; exact ⟨(p, v), rfl, rfl⟩) LT_idxf 1 (by rintro ⟨⟨v, ⟨⟩⟩, ⟨⟩⟩; rfl) lok_idxf E_idxf ev_idxf fe_idxf
noncomputable def L_idxf : List (Nat × Summ) := (32, (sumT [.dp partsT, .any] false [.c (.d partsT), .c (.clo 33 [(0, 0)])] [.lit [.i .i64]] F_idxf)) :: L_fc1
theorem tok_idxf : TOk Kn Try.prog (lk L_idxf) := lk_cons ok_idxf tok_fc1

noncomputable def F_rchw : denAs [.c (.d insT)] → denObs [] → Tree (AV × List Ob) := fun x y => match x, y with
  | (l, ()), () => .ite (okR l) (.ret (.t [.one (.h 0), .one (.v (.int .i64 0))], [.row boolsT (List.replicate l.length (true, ()))])) .fail
theorem we_rchw : ∀ x y r, (F_rchw x y).run = some r → (F_Rch x y).run = some r := by
  rintro ⟨l, ⟨⟩⟩ ⟨⟩ r e
  cases hb : okR l with
  | false => exact absurd ((goF hb).symm.trans e) (by intro h; cases h)
  | true =>
    have he := (goT hb).symm.trans e
    unfold okR at hb
    rw [Bool.and_eq_true, Bool.and_eq_true] at hb
    obtain ⟨h1, h2, h3⟩ := hb
    refine (ckP_true (of_decide_eq_true h1) _).trans ?_
    unfold reachT
    refine (goT h2).trans ?_
    rw [of_decide_eq_true h3]
    exact he
theorem ok_rchw : SummOk Kn Try.prog 6 (sumT [.dp insT] false [.c (.d insT)] [] F_rchw) := weakT ok_Rch we_rchw
noncomputable def L_rchw : List (Nat × Summ) := (6, (sumT [.dp insT] false [.c (.d insT)] [] F_rchw)) :: L_idxf
theorem tok_rchw : TOk Kn Try.prog (lk L_rchw) := lk_cons ok_rchw tok_idxf

noncomputable def F_sbsw : denAs [.c (.d insT)] → denObs [] → Tree (AV × List Ob) := fun x y => match x, y with
  | (l, ()), () => .ite (okS l) (.ret (.t [.one (.h 0), .one (.v (.int .i64 0)), .one (.v (.int .i64 0))], [.row partsT (partsD (l.length / 2) 0)])) .fail
theorem we_sbsw : ∀ x y r, (F_sbsw x y).run = some r → (F_sbs x y).run = some r := by
  rintro ⟨l, ⟨⟩⟩ ⟨⟩ r e
  cases hb : okS l with
  | false => exact absurd ((goF hb).symm.trans e) (by intro h; cases h)
  | true =>
    have he := (goT hb).symm.trans e
    unfold okS at hb
    rw [Bool.and_eq_true] at hb
    obtain ⟨h1, h2⟩ := hb
    refine (ckP_true (of_decide_eq_true h1) _).trans ?_
    rw [of_decide_eq_true h2]
    exact he
theorem ok_sbsw : SummOk Kn Try.prog 15 (sumT [.dp insT] false [.c (.d insT)] [] F_sbsw) := weakT ok_sbs we_sbsw
noncomputable def L_sbsw : List (Nat × Summ) := (15, (sumT [.dp insT] false [.c (.d insT)] [] F_sbsw)) :: L_rchw
theorem tok_sbsw : TOk Kn Try.prog (lk L_sbsw) := lk_cons ok_sbsw tok_rchw

noncomputable def F_namesw : denAs [.c (.d insT), .c (.i .i64)] → denObs [] → Tree (AV × List Ob) := fun x y => match x, y with
  | (l, k, ()), () => .ite (decide (0 ≤ k) && decide (k < l.length)) (.ite (namesV l k) (.ret (.t [.one (.v (.int .i64 (targetI l k))), .one (.v (.bool true))], [])) (.ret (.t [.one (.v (.int .i64 0)), .one (.v (.bool false))], []))) .fail
theorem we_namesw : ∀ x y r, (F_namesw x y).run = some r → (F_names x y).run = some r := by
  rintro ⟨l, k, ⟨⟩⟩ ⟨⟩ r e
  cases hb : decide (0 ≤ k) && decide (k < l.length) with
  | false => exact absurd ((goF hb).symm.trans e) (by intro h; cases h)
  | true =>
    have he := (goT hb).symm.trans e
    rw [Bool.and_eq_true] at hb
    exact (ckP_true ⟨of_decide_eq_true hb.1, of_decide_eq_true hb.2⟩ _).trans he
theorem ok_namesw : SummOk Kn Try.prog 29 (sumT [.dp insT, .any] false [.c (.d insT), .c (.i .i64)] [] F_namesw) := weakT ok_names we_namesw
noncomputable def L_namesw : List (Nat × Summ) := (29, (sumT [.dp insT, .any] false [.c (.d insT), .c (.i .i64)] [] F_namesw)) :: L_sbsw
theorem tok_namesw : TOk Kn Try.prog (lk L_namesw) := lk_cons ok_namesw tok_sbsw

end Go.Proofs.Ytdbnbijillmlcaa
