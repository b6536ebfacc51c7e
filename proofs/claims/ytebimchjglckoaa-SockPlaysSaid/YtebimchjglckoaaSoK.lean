/-
  The contracts of package sock's tables (written by our own gen_so.py).
-/
import Derived.Test.YtebimchjglckoaaSoS
import Derived.Test.YtebimchjglckoaaRows
namespace Go.Proofs.Ytebimchjglckoaa
open Go Go.Sy Go.Sz Go.So Go.Proofs.Ytebimchjglckoaa
set_option linter.unusedVariables false
set_option linter.unusedSimpArgs false
set_option linter.constructorNameAsVariable false
set_option maxRecDepth 100000

def Kn : Know := Know.none

theorem ok_bclone : SummOk Kn Try.prog 33 (cloneS bytesT false 1) := clone_ok (lk_nil Kn Try.prog) Try.checked.mixed Try.func33 (by kernel_rfl) (by rfl) 20 [(0, bytesT)]
  (fun l => by kernel_rfl) (fun cap => by kernel_rfl) (fun a cap => by kernel_rfl)
noncomputable def L_bclone : List (Nat × Summ) := (33, (cloneS bytesT false 1)) :: []
theorem tok_bclone : TOk Kn Try.prog (lk L_bclone) := lk_cons ok_bclone (lk_nil Kn Try.prog)

theorem ok_iclone : SummOk Kn Try.prog 34 (cloneS intsT false 8) := clone_ok tok_bclone Try.checked.mixed Try.func34 (by kernel_rfl) (by rfl) 20 [(0, intsT)]
  (fun l => by kernel_rfl) (fun cap => by kernel_rfl) (fun a cap => by kernel_rfl)
noncomputable def L_iclone : List (Nat × Summ) := (34, (cloneS intsT false 8)) :: L_bclone
theorem tok_iclone : TOk Kn Try.prog (lk L_iclone) := lk_cons ok_iclone tok_bclone

def ea_fits : Int × Int → denAs [.c (.i .i64), .c (.i .i64)] := fun ⟨off, size⟩ => (off, size, ())
def eo_fits : Int × Int → denObs [] := fun ⟨off, size⟩ => ()
noncomputable def E_fits : Int × Int → Tree (AV × List Ob) := fun ⟨off, size⟩ => 
Tree.ite (off == (0 : Int)) (Tree.ite (decide (size ≤ (4 : Int))) (Tree.ite (!size == (1 : Int)) (Tree.ite (!size == (2 : Int)) (Tree.ret (AV.p (Part.one (Cell.v (Value.bool (size == (4 : Int))))), [])) (Tree.ret (AV.p (Part.one (Cell.v (Value.bool true))), []))) (Tree.ret (AV.p (Part.one (Cell.v (Value.bool true))), []))) (Tree.ret (AV.p (Part.one (Cell.v (Value.bool false))), []))) (Tree.ite (off == (4 : Int)) (Tree.ite (decide (size ≤ (4 : Int))) (Tree.ite (!size == (1 : Int)) (Tree.ite (!size == (2 : Int)) (Tree.ret (AV.p (Part.one (Cell.v (Value.bool (size == (4 : Int))))), [])) (Tree.ret (AV.p (Part.one (Cell.v (Value.bool true))), []))) (Tree.ret (AV.p (Part.one (Cell.v (Value.bool true))), []))) (Tree.ret (AV.p (Part.one (Cell.v (Value.bool false))), []))) (Tree.ite (off == (8 : Int)) (Tree.ite (decide (size ≤ (4 : Int))) (Tree.ite (!size == (1 : Int)) (Tree.ite (!size == (2 : Int)) (Tree.ret (AV.p (Part.one (Cell.v (Value.bool (size == (4 : Int))))), [])) (Tree.ret (AV.p (Part.one (Cell.v (Value.bool true))), []))) (Tree.ret (AV.p (Part.one (Cell.v (Value.bool true))), []))) (Tree.ret (AV.p (Part.one (Cell.v (Value.bool false))), []))) (Tree.ite (off == (12 : Int)) (Tree.ite (decide (size ≤ (2 : Int))) (Tree.ite (!size == (1 : Int)) (Tree.ite (!size == (2 : Int)) (Tree.ret (AV.p (Part.one (Cell.v (Value.bool (size == (4 : Int))))), [])) (Tree.ret (AV.p (Part.one (Cell.v (Value.bool true))), []))) (Tree.ret (AV.p (Part.one (Cell.v (Value.bool true))), []))) (Tree.ret (AV.p (Part.one (Cell.v (Value.bool false))), []))) (Tree.ite (off == (14 : Int)) (Tree.ite (decide (size ≤ (2 : Int))) (Tree.ite (!size == (1 : Int)) (Tree.ite (!size == (2 : Int)) (Tree.ret (AV.p (Part.one (Cell.v (Value.bool (size == (4 : Int))))), [])) (Tree.ret (AV.p (Part.one (Cell.v (Value.bool true))), []))) (Tree.ret (AV.p (Part.one (Cell.v (Value.bool true))), []))) (Tree.ret (AV.p (Part.one (Cell.v (Value.bool false))), []))) (Tree.ite (off == (16 : Int)) (Tree.ite (decide (size ≤ (4 : Int))) (Tree.ite (!size == (1 : Int)) (Tree.ite (!size == (2 : Int)) (Tree.ret (AV.p (Part.one (Cell.v (Value.bool (size == (4 : Int))))), [])) (Tree.ret (AV.p (Part.one (Cell.v (Value.bool true))), []))) (Tree.ret (AV.p (Part.one (Cell.v (Value.bool true))), []))) (Tree.ret (AV.p (Part.one (Cell.v (Value.bool false))), []))) (Tree.ret (AV.p (Part.one (Cell.v (Value.bool false))), [])))))))
noncomputable def F_fits : denAs [.c (.i .i64), .c (.i .i64)] → denObs [] → Tree (AV × List Ob) := fun x y => match x, y with
  | (off, size, ()), () => .ret (AV.b (fits off size), [])
theorem ev_fits : ∀ a, (evalFnL Try.prog (lk L_iclone) 20 noL Try.f35 (Try.f35.body.getD .skip) [] (encAs [.c (.i .i64), .c (.i .i64)] (ea_fits a)) (encOs [] (eo_fits a))).run = (E_fits a).run := by
  rintro ⟨off, size⟩
  kernel_rfl
theorem fe_fits : ∀ a y, (F_fits (ea_fits a) (eo_fits a)).run = some y → (E_fits a).run = some y := by
  rintro ⟨off, size⟩ y h
  rw [← h]
  change (E_fits (off, size)).run = some (AV.b (fits off size), [])
  simp only [E_fits, Tree.run, fits]
  by_cases h0 : off = 0
  · subst h0; cases decide (size ≤ 4) <;> cases (size == 1) <;> cases (size == 2) <;> cases (size == 4) <;> rfl
  by_cases h1 : off = 4
  · subst h1; cases decide (size ≤ 4) <;> cases (size == 1) <;> cases (size == 2) <;> cases (size == 4) <;> rfl
  by_cases h2 : off = 8
  · subst h2; cases decide (size ≤ 4) <;> cases (size == 1) <;> cases (size == 2) <;> cases (size == 4) <;> rfl
  by_cases h3 : off = 12
  · subst h3; cases decide (size ≤ 2) <;> cases (size == 1) <;> cases (size == 2) <;> cases (size == 4) <;> rfl
  by_cases h4 : off = 14
  · subst h4; cases decide (size ≤ 2) <;> cases (size == 1) <;> cases (size == 2) <;> cases (size == 4) <;> rfl
  by_cases h5 : off = 16
  · subst h5; cases decide (size ≤ 4) <;> cases (size == 1) <;> cases (size == 2) <;> cases (size == 4) <;> rfl
  rw [beq_false_of_ne h0, beq_false_of_ne h1, beq_false_of_ne h2, beq_false_of_ne h3, beq_false_of_ne h4, beq_false_of_ne h5]; rfl
theorem ok_fits : SummOk Kn Try.prog 35 (sumT [.any, .any] false [.c (.i .i64), .c (.i .i64)] [] F_fits) := sumT_view tok_iclone Try.checked.mixed Try.func35 (by kernel_rfl) (by rfl) 20 [] ea_fits eo_fits
  (by rintro ⟨off, size, ⟨⟩⟩ ⟨⟩; exact ⟨(off, size), rfl, rfl⟩) noL 0 (by rintro ⟨⟩; rfl) (noL_ok _ _ _ _ _ _) E_fits ev_fits fe_fits
noncomputable def L_fits : List (Nat × Summ) := (35, (sumT [.any, .any] false [.c (.i .i64), .c (.i .i64)] [] F_fits)) :: L_iclone
theorem tok_fits : TOk Kn Try.prog (lk L_fits) := lk_cons ok_fits tok_iclone

theorem ok_tlen : SummOk Kn Try.prog 9 (sumE [.own 1] false Try.prog (lk L_fits) 20 Try.f9 (Try.f9.body.getD .skip) []) := sumE_ok tok_fits Try.checked.mixed Try.func9 (by kernel_rfl) (by rfl) 20 []
noncomputable def L_tlen : List (Nat × Summ) := (9, (sumE [.own 1] false Try.prog (lk L_fits) 20 Try.f9 (Try.f9.body.getD .skip) [])) :: L_fits
theorem tok_tlen : TOk Kn Try.prog (lk L_tlen) := lk_cons ok_tlen tok_fits

theorem ok_ttake : SummOk Kn Try.prog 10 (sumE [.own 1, .any] false Try.prog (lk L_tlen) 20 Try.f10 (Try.f10.body.getD .skip) []) := sumE_ok tok_tlen Try.checked.mixed Try.func10 (by kernel_rfl) (by rfl) 20 []
noncomputable def L_ttake : List (Nat × Summ) := (10, (sumE [.own 1, .any] false Try.prog (lk L_tlen) 20 Try.f10 (Try.f10.body.getD .skip) [])) :: L_tlen
theorem tok_ttake : TOk Kn Try.prog (lk L_ttake) := lk_cons ok_ttake tok_tlen

theorem ok_tdrop : SummOk Kn Try.prog 11 (sumE [.own 1, .any] false Try.prog (lk L_ttake) 20 Try.f11 (Try.f11.body.getD .skip) []) := sumE_ok tok_ttake Try.checked.mixed Try.func11 (by kernel_rfl) (by rfl) 20 []
noncomputable def L_tdrop : List (Nat × Summ) := (11, (sumE [.own 1, .any] false Try.prog (lk L_ttake) 20 Try.f11 (Try.f11.body.getD .skip) [])) :: L_ttake
theorem tok_tdrop : TOk Kn Try.prog (lk L_tdrop) := lk_cons ok_tdrop tok_ttake

theorem ok_tcounts : SummOk Kn Try.prog 12 (sumE [.own 1] false Try.prog (lk L_tdrop) 20 Try.f12 (Try.f12.body.getD .skip) [(0, intsT)]) := sumE_ok tok_tdrop Try.checked.mixed Try.func12 (by kernel_rfl) (by rfl) 20 [(0, intsT)]
noncomputable def L_tcounts : List (Nat × Summ) := (12, (sumE [.own 1] false Try.prog (lk L_tdrop) 20 Try.f12 (Try.f12.body.getD .skip) [(0, intsT)])) :: L_tdrop
theorem tok_tcounts : TOk Kn Try.prog (lk L_tcounts) := lk_cons ok_tcounts tok_tdrop

noncomputable abbrev c_nt : Code := Try.f8.body.getD .skip
def p_nt : List Nat := [0, 1, 0, 1, 1, 1]
def sh_nt : Shape := ⟨[(4, .c (.p 0 0)), (12, .c (.d rowsT)), (13, .c (.i .i64)), (14, .c (.i .i64))], [.lit [.h 1, .h 2], .row intsT, .row rowsT]⟩
@[reducible] def A_nt : Type := Rws × Int × Int × Ints × Rws
def e_nt : A_nt → sh_nt.den := fun ⟨b, n, i, c, a⟩ => (((), b, n, i, ()), (((), (), ()), c, a, ()))
def v_nt : sh_nt.den → A_nt := fun d => match d with
  | (((), b, n, i, ()), (((), (), ()), c, a, ())) => (b, n, i, c, a)
def I_nt : A_nt → Prop := fun ⟨b, n, i, c, a⟩ => n = b.length ∧ b.length ≤ 16 ∧ 0 ≤ i ∧ c.length ≤ i.toNat ∧ a.length ≤ i.toNat
noncomputable def G_nt : A_nt → Tree (Ex × St) := fun ⟨b, n, i, c, a⟩ => ntG b i c a
noncomputable def orc_nt : Orc := ⟨sh_nt, [(1000000, intsT), (1000001, rowsT)], [2, 3, 4], [], fun d => ckP (I_nt (v_nt d)) (G_nt (v_nt d))⟩
noncomputable def LT_nt : LT := oneL p_nt orc_nt (noL)
noncomputable def T_nt : Rws × Int × Int × Ints × Rws → Tree (A_nt ⊕ (Ex × St)) := fun ⟨b, n, i, c, a⟩ => 
Tree.ite (decide (i < n)) (Tree.ite (decide ((0 : Int) ≤ i) && decide (i < (↑(List.length b) : Int))) (Tree.ite ((↑(List.length (List.getD b i.toNat ([], ())).fst) : Int) != (20 : Int)) (Tree.ret (Sum.inr (Ex.ret, { env := [((2 : Nat), AV.p (Part.one (Cell.v (Value.pointer none)))), ((3 : Nat), AV.p (Part.one (Cell.v (Value.int IntKind.i64 (112 : Int))))), ((4 : Nat), AV.p (Part.one (Cell.p (0 : Nat) (0 : Nat))))], hp := [((0 : Nat), Ob.lit [Cell.h (1 : Nat), Cell.h (2 : Nat)]), ((1 : Nat), Ob.row intsT c), ((2 : Nat), Ob.row rowsT a)], nx := (3 : Nat) }))) (Tree.ite (bytesOk (List.length (List.getD b i.toNat ([], ())).fst) (1 : Nat) && (List.length (List.getD b i.toNat ([], ())).fst).ble (140737488355328 : Nat)) (Tree.ite (bytesOk (List.length a + (1 : Nat)) (24 : Nat) && (List.length a + (1 : Nat)).ble (140737488355328 : Nat)) (Tree.ite (bytesOk (List.length c + (1 : Nat)) (8 : Nat) && (List.length c + (1 : Nat)).ble (140737488355328 : Nat)) (Tree.ret (Sum.inl (b, n, IntKind.i64.wrap (i + (1 : Int)), c ++ [((1 : Int), ())], a ++ [((List.getD b i.toNat ([], ())).fst, ())]))) Tree.fail) Tree.fail) Tree.fail)) Tree.fail) (Tree.ret (Sum.inr (Ex.exit (0 : Nat), { env := [((4 : Nat), AV.p (Part.one (Cell.p (0 : Nat) (0 : Nat))))], hp := [((0 : Nat), Ob.lit [Cell.h (1 : Nat), Cell.h (2 : Nat)]), ((1 : Nat), Ob.row intsT c), ((2 : Nat), Ob.row rowsT a)], nx := (3 : Nat) })))
theorem turn_nt : ∀ a : A_nt, (turnT 0 orc_nt (evalCode Try.prog (lk L_tcounts) Try.f8.ntmps 0 20 LT_nt (bodyAt c_nt p_nt) false (0 :: p_nt)) (sh_nt.enc (e_nt a))).run = ((T_nt a).bind fun s => .ret (turnV sh_nt e_nt s)).run := by
  rintro ⟨b, n, i, c, a⟩
  kernel_rfl

def μ_nt : A_nt → Nat := fun ⟨b, n, i, c, a⟩ => b.length - i.toNat
theorem step_nt : ∀ a : A_nt, I_nt a → (∃ a', (T_nt a).run = some (.inl a') ∧ I_nt a' ∧ μ_nt a' < μ_nt a ∧ (G_nt a').run = (G_nt a).run) ∨ (∃ y, (T_nt a).run = some (.inr y) ∧ (G_nt a).run = some y ∧ ((∃ id, y.1 = .exit id) ∨ y.1 = .ret)) := by
  rintro ⟨b, n, i, c, a⟩ ⟨rfl, h2, h3, h4, h5⟩
  simp only [T_nt, G_nt, Tree.run, cif, cif_not, ble_dec, bytesOk_dec, and_dec, bne_int]
  by_cases hi : i < b.length
  · rw [if_pos hi, if_pos ⟨h3, hi⟩]
    have hd := drop_cons (l := b) (i := i.toNat) (by omega) ([], ())
    by_cases hg : ((List.length (List.getD b i.toNat ([], ())).1 : Nat) : Int) = 20
    · left
      rw [if_neg (by omega), if_pos (by omega), if_pos (by omega), if_pos (by omega), wrap64 (by omega) (by omega)]
      refine ⟨_, rfl, ⟨rfl, h2, by omega, by simp; omega, by simp; omega⟩, by simp only [μ_nt]; omega, ?_⟩
      have hgo : good (List.getD b i.toNat ([], ())) = true := decide_eq_true hg
      simp only [ntG, Tree.run, hd, toNat_succ h3, List.all_cons, hgo, Bool.true_and, goods, List.takeWhile_cons, if_true, List.length_cons]
      simp [ones, List.replicate_succ]
    · right
      rw [if_pos hg]
      refine ⟨_, rfl, ?_, .inr rfl⟩
      have hgo : good (List.getD b i.toNat ([], ())) = false := decide_eq_false hg
      simp only [ntG, Tree.run, hd, List.all_cons, hgo, goods, Bool.false_and, cond_false, List.takeWhile_cons]
      simp [ones, tabHp]
  · right
    rw [if_neg hi]
    refine ⟨_, rfl, ?_, .inl ⟨0, rfl⟩⟩
    rw [ntG, drop_end (by omega)]
    simp [ones, Tree.run, tabHp]
theorem lok_nt : LOk Try.prog (lk L_tcounts) Try.f8.ntmps 0 20 LT_nt c_nt := lok_view (noL_ok2 _ _ _ _ _ _ _) (by kernel_rfl) e_nt (by rintro ⟨⟨⟨⟩, b, n, i, ⟨⟩⟩, ⟨⟨⟨⟩, ⟨⟩, ⟨⟩⟩, c, a, ⟨⟩⟩⟩; exact ⟨(b, n, i, c, a), rfl⟩) T_nt turn_nt I_nt G_nt (by rintro ⟨b, n, i, c, a⟩; rfl) μ_nt step_nt
def ea_nt : Rws → denAs [.c (.d rowsT)] := fun b => (b, ())
def eo_nt : Rws → denObs [] := fun b => ()
noncomputable def E_nt : Rws → Tree (AV × List Ob) := fun b => 
Tree.ite (decide ((16 : Int) < (↑(List.length b) : Int))) (Tree.ret (AV.t [Part.one (Cell.v (Value.pointer none)), Part.one (Cell.v (Value.int IntKind.i64 (111 : Int)))], [])) (Tree.ite (decC ((↑(List.length b) : Int) = (↑(List.length b) : Int) ∧ List.length b ≤ (16 : Nat) ∧ (0 : Int) ≤ (0 : Int) ∧ (0 : Nat) ≤ (0 : Nat) ∧ (0 : Nat) ≤ (0 : Nat))) (Tree.ite ((List.drop (0 : Nat) b).all good) (Tree.ret (AV.t [Part.one (Cell.p (0 : Nat) (0 : Nat)), Part.one (Cell.v (Value.int IntKind.i64 (0 : Int)))], [Ob.lit [Cell.h (1 : Nat), Cell.h (2 : Nat)], Ob.row intsT ([] ++ ones (List.drop (0 : Nat) b).length), Ob.row rowsT ([] ++ List.drop (0 : Nat) b)])) (Tree.ret (AV.t [Part.one (Cell.v (Value.pointer none)), Part.one (Cell.v (Value.int IntKind.i64 (112 : Int)))], []))) Tree.fail)
noncomputable def F_nt : denAs [.c (.d rowsT)] → denObs [] → Tree (AV × List Ob) := fun x y => match x, y with
  | (b, ()), () => newTab b
theorem ev_nt : ∀ a, (evalFnL Try.prog (lk L_tcounts) 20 LT_nt Try.f8 c_nt [] (encAs [.c (.d rowsT)] (ea_nt a)) (encOs [] (eo_nt a))).run = (E_nt a).run := by
  rintro b
  kernel_rfl
theorem fe_nt : ∀ a y, (F_nt (ea_nt a) (eo_nt a)).run = some y → (E_nt a).run = some y := by
  rintro b y h
  rw [← h]
  change (E_nt b).run = (newTab b).run
  simp only [E_nt, newTab, Tree.run, cif, List.drop_zero, List.nil_append]
  by_cases h1 : b.length ≤ 16
  · rw [if_neg (by omega), if_neg (by omega), cifC ⟨trivial, h1, by omega, by omega, by omega⟩]; rfl
  · rw [if_pos (by omega), if_pos (by omega)]
theorem ok_nt : SummOk Kn Try.prog 8 (sumT [.dp rowsT] true [.c (.d rowsT)] [] F_nt) := sumT_view tok_tcounts Try.checked.mixed Try.func8 (by kernel_rfl) (by rfl) 20 [] ea_nt eo_nt
  (by rintro ⟨b, ⟨⟩⟩ ⟨⟩; exact ⟨b, rfl, rfl⟩) LT_nt 0 (by rintro ⟨⟩; rfl) lok_nt E_nt ev_nt fe_nt
noncomputable def L_nt : List (Nat × Summ) := (8, (sumT [.dp rowsT] true [.c (.d rowsT)] [] F_nt)) :: L_tcounts
theorem tok_nt : TOk Kn Try.prog (lk L_nt) := lk_cons ok_nt tok_tcounts

noncomputable abbrev c_fi : Code := Try.f13.body.getD .skip
def p_fi : List Nat := [0, 1, 0, 1, 1, 1]
def sh_fi : Shape := ⟨[(10, .c (.w .u64)), (41, .c (.d bytesT)), (42, .c (.i .i64)), (43, .c (.i .i64))], [.lit [.h 1, .h 2], .row intsT, .row rowsT]⟩
@[reducible] def A_fi : Type := Bys × Int × Int × (BitVec 64) × Ints × Rws
def e_fi : A_fi → sh_fi.den := fun ⟨l, n, i, x, c, b⟩ => ((x, l, n, i, ()), (((), (), ()), c, b, ()))
def v_fi : sh_fi.den → A_fi := fun d => match d with
  | ((x, l, n, i, ()), (((), (), ()), c, b, ())) => (l, n, i, x, c, b)
def I_fi : A_fi → Prop := fun ⟨l, n, i, x, c, b⟩ => n = l.length ∧ 0 ≤ i ∧ l.length ≤ 20
noncomputable def G_fi : A_fi → Tree (Ex × St) := fun ⟨l, n, i, x, c, b⟩ => .ret (.exit 1, ⟨[(10, .p (.one (.w .u64 (fb (l.drop i.toNat) i.toNat x))))], tabHp c b, 3⟩)
noncomputable def orc_fi : Orc := ⟨sh_fi, [], [10], [], fun d => ckP (I_fi (v_fi d)) (G_fi (v_fi d))⟩
noncomputable def LT_fi : LT := oneL p_fi orc_fi (noL)
noncomputable def T_fi : Bys × Int × Int × (BitVec 64) × Ints × Rws → Tree (A_fi ⊕ (Ex × St)) := fun ⟨l, n, i, x, c, b⟩ => 
Tree.ite (decide (i < n)) (Tree.ite (decide ((0 : Int) ≤ i) && decide (i < (↑(List.length l) : Int))) (Tree.ite (decide (IntKind.i64.wrap ((8 : Int) * i) < (0 : Int))) Tree.fail (Tree.ret (Sum.inl (l, n, IntKind.i64.wrap (i + (1 : Int)), x ||| BitVec.setWidth (64 : Nat) (List.getD l i.toNat (BitVec.ofNat (8 : Nat) (0 : Nat), ())).fst <<< (IntKind.i64.wrap ((8 : Int) * i)).toNat, c, b)))) Tree.fail) (Tree.ret (Sum.inr (Ex.exit (1 : Nat), { env := [((10 : Nat), AV.p (Part.one (Cell.w IntKind.u64 x)))], hp := [((0 : Nat), Ob.lit [Cell.h (1 : Nat), Cell.h (2 : Nat)]), ((1 : Nat), Ob.row intsT c), ((2 : Nat), Ob.row rowsT b)], nx := (3 : Nat) })))
theorem turn_fi : ∀ a : A_fi, (turnT 3 orc_fi (evalCode Try.prog (lk L_nt) Try.f13.ntmps 3 20 LT_fi (bodyAt c_fi p_fi) false (0 :: p_fi)) (sh_fi.enc (e_fi a))).run = ((T_fi a).bind fun s => .ret (turnV sh_fi e_fi s)).run := by
  rintro ⟨l, n, i, x, c, b⟩
  kernel_rfl

def μ_fi : A_fi → Nat := fun ⟨l, n, i, x, c, b⟩ => l.length - i.toNat
theorem step_fi : ∀ a : A_fi, I_fi a → (∃ a', (T_fi a).run = some (.inl a') ∧ I_fi a' ∧ μ_fi a' < μ_fi a ∧ (G_fi a').run = (G_fi a).run) ∨ (∃ y, (T_fi a).run = some (.inr y) ∧ (G_fi a).run = some y ∧ ((∃ id, y.1 = .exit id) ∨ y.1 = .ret)) := by
  rintro ⟨l, n, i, x, c, b⟩ ⟨rfl, h1, h2⟩
  simp only [T_fi, G_fi, Tree.run, cif, cif_not, and_dec]
  by_cases hi : i < l.length
  · left
    rw [if_pos hi, if_pos ⟨h1, hi⟩, wrap64 (n := 8 * i) (by omega) (by omega), if_neg (by omega), wrap64 (by omega) (by omega)]
    refine ⟨_, rfl, ⟨rfl, by omega, h2⟩, by simp only [μ_fi]; omega, ?_⟩
    rw [drop_cons (l := l) (i := i.toNat) (by omega) (0#8, ()), fb, toNat_succ h1, show (8 * i).toNat = 8 * i.toNat by omega]
  · right
    rw [if_neg hi]
    refine ⟨_, rfl, ?_, .inl ⟨1, rfl⟩⟩
    rw [drop_end (by omega), fb]; rfl
theorem lok_fi : LOk Try.prog (lk L_nt) Try.f13.ntmps 3 20 LT_fi c_fi := lok_view (noL_ok2 _ _ _ _ _ _ _) (by kernel_rfl) e_fi (by rintro ⟨⟨x, l, n, i, ⟨⟩⟩, ⟨⟨⟨⟩, ⟨⟩, ⟨⟩⟩, c, b, ⟨⟩⟩⟩; exact ⟨(l, n, i, x, c, b), rfl⟩) T_fi turn_fi I_fi G_fi (by rintro ⟨l, n, i, x, c, b⟩; rfl) μ_fi step_fi
def ea_fi : Int × Int × Int × Ints × Rws → denAs [.c (.p 0 0), .c (.i .i64), .c (.i .i64), .c (.i .i64)] := fun ⟨i, off, size, c, b⟩ => ((), i, off, size, ())
def eo_fi : Int × Int × Int × Ints × Rws → denObs [.lit [.h 1, .h 2], .row intsT, .row rowsT] := fun ⟨i, off, size, c, b⟩ => (((), (), ()), c, b, ())
noncomputable def E_fi : Int × Int × Int × Ints × Rws → Tree (AV × List Ob) := fun ⟨i, off, size, c, b⟩ => 
Tree.ite (!decide (i < (0 : Int))) (Tree.ite (decide ((↑(List.length b) : Int) ≤ i)) (Tree.ret (AV.t [Part.one (Cell.w IntKind.u64 (BitVec.ofInt (64 : Nat) (0 : Int))), Part.one (Cell.v (Value.int IntKind.i64 (8 : Int)))], [Ob.lit [Cell.h (1 : Nat), Cell.h (2 : Nat)], Ob.row intsT c, Ob.row rowsT b])) (Tree.ite (!fits off size) (Tree.ret (AV.t [Part.one (Cell.w IntKind.u64 (BitVec.ofInt (64 : Nat) (0 : Int))), Part.one (Cell.v (Value.int IntKind.i64 (12 : Int)))], [Ob.lit [Cell.h (1 : Nat), Cell.h (2 : Nat)], Ob.row intsT c, Ob.row rowsT b])) (Tree.ite (decide ((0 : Int) ≤ i) && decide (i < (↑(List.length b) : Int))) (Tree.ite (decide ((0 : Int) ≤ IntKind.i64.wrap (off + size)) && decide (IntKind.i64.wrap (off + size) ≤ (↑(List.length (List.getD b i.toNat ([], ())).fst) : Int))) (Tree.ite (decide ((0 : Int) ≤ off) && decide (off ≤ (↑(IntKind.i64.wrap (off + size)).toNat : Int))) (Tree.ite (decC ((↑(List.take ((IntKind.i64.wrap (off + size)).toNat - off.toNat) (List.drop off.toNat (List.getD b i.toNat ([], ())).fst)).length : Int) = (↑(List.take ((IntKind.i64.wrap (off + size)).toNat - off.toNat) (List.drop off.toNat (List.getD b i.toNat ([], ())).fst)).length : Int) ∧ (0 : Int) ≤ (0 : Int) ∧ (List.take ((IntKind.i64.wrap (off + size)).toNat - off.toNat) (List.drop off.toNat (List.getD b i.toNat ([], ())).fst)).length ≤ (20 : Nat))) (Tree.ret (AV.t [Part.one (Cell.w IntKind.u64 (fb (List.drop (0 : Nat) (List.take ((IntKind.i64.wrap (off + size)).toNat - off.toNat) (List.drop off.toNat (List.getD b i.toNat ([], ())).fst))) (0 : Nat) (BitVec.ofInt (64 : Nat) (0 : Int)))), Part.one (Cell.v (Value.int IntKind.i64 (0 : Int)))], [Ob.lit [Cell.h (1 : Nat), Cell.h (2 : Nat)], Ob.row intsT c, Ob.row rowsT b])) Tree.fail) Tree.fail) Tree.fail) Tree.fail))) (Tree.ret (AV.t [Part.one (Cell.w IntKind.u64 (BitVec.ofInt (64 : Nat) (0 : Int))), Part.one (Cell.v (Value.int IntKind.i64 (8 : Int)))], [Ob.lit [Cell.h (1 : Nat), Cell.h (2 : Nat)], Ob.row intsT c, Ob.row rowsT b]))
noncomputable def F_fi : denAs [.c (.p 0 0), .c (.i .i64), .c (.i .i64), .c (.i .i64)] → denObs [.lit [.h 1, .h 2], .row intsT, .row rowsT] → Tree (AV × List Ob) := fun x y => match x, y with
  | ((), i, off, size, ()), (((), (), ()), c, b, ()) => fieldT i off size c b
theorem ev_fi : ∀ a, (evalFnL Try.prog (lk L_nt) 20 LT_fi Try.f13 c_fi [] (encAs [.c (.p 0 0), .c (.i .i64), .c (.i .i64), .c (.i .i64)] (ea_fi a)) (encOs [.lit [.h 1, .h 2], .row intsT, .row rowsT] (eo_fi a))).run = (E_fi a).run := by
  rintro ⟨i, off, size, c, b⟩
  kernel_rfl
theorem fe_fi : ∀ a y, (F_fi (ea_fi a) (eo_fi a)).run = some y → (E_fi a).run = some y := by
  rintro ⟨i, off, size, c, b⟩ y h
  change (fieldT i off size c b).run = some y at h
  simp only [E_fi, Tree.run, cif, cif_not, and_dec]
  simp only [fieldT, Tree.run] at h
  by_cases h1 : i < 0
  · rw [if_pos h1]; rw [decide_eq_true h1] at h; exact h
  by_cases h2 : (b.length : Int) ≤ i
  · rw [if_neg h1, if_pos h2]; rw [decide_eq_false h1, decide_eq_true h2] at h; exact h
  rw [if_neg h1, if_neg h2]
  rw [decide_eq_false h1, decide_eq_false h2] at h
  cases hf : fits off size with
  | false => rw [hf] at h; exact h
  | true =>
    rw [hf] at h
    simp only [Bool.or_false, cond_false, cond_true] at h
    obtain ⟨hl, h⟩ := ckP_run h
    obtain ⟨g1, g2, g3, g4⟩ := fits_spec hf
    rw [wrap64 (n := off + size) (by omega) (by omega)]
    have e : (off + size).toNat = off.toNat + size.toNat := by omega
    have hc : (List.take (off.toNat + size.toNat - off.toNat) (List.drop off.toNat (List.getD b i.toNat ([], ())).1)).length ≤ 20 := by
      rw [List.length_take]; omega
    simp only [Bool.not_true, cond_false]
    rw [if_pos (by omega), if_pos (by omega), if_pos (by omega), e, cifC ⟨trivial, by omega, hc⟩, List.drop_zero]
    exact h
theorem ok_fi : SummOk Kn Try.prog 13 (sumT [.any, .any, .any, .any] false [.c (.p 0 0), .c (.i .i64), .c (.i .i64), .c (.i .i64)] [.lit [.h 1, .h 2], .row intsT, .row rowsT] F_fi) := sumT_view tok_nt Try.checked.mixed Try.func13 (by kernel_rfl) (by rfl) 20 [] ea_fi eo_fi
  (by rintro ⟨⟨⟩, i, off, size, ⟨⟩⟩ ⟨⟨⟨⟩, ⟨⟩, ⟨⟩⟩, c, b, ⟨⟩⟩; exact ⟨(i, off, size, c, b), rfl, rfl⟩) LT_fi 3 (by rintro ⟨⟨⟨⟩, ⟨⟩, ⟨⟩⟩, c, b, ⟨⟩⟩; rfl) lok_fi E_fi ev_fi fe_fi
noncomputable def L_fi : List (Nat × Summ) := (13, (sumT [.any, .any, .any, .any] false [.c (.p 0 0), .c (.i .i64), .c (.i .i64), .c (.i .i64)] [.lit [.h 1, .h 2], .row intsT, .row rowsT] F_fi)) :: L_nt
theorem tok_fi : TOk Kn Try.prog (lk L_fi) := lk_cons ok_fi tok_nt

theorem ok_nl : SummOk Kn Try.prog 14 (sumE [] false Try.prog (lk L_fi) 20 Try.f14 (Try.f14.body.getD .skip) []) := sumE_ok tok_fi Try.checked.mixed Try.func14 (by kernel_rfl) (by rfl) 20 []
noncomputable def L_nl : List (Nat × Summ) := (14, (sumE [] false Try.prog (lk L_fi) 20 Try.f14 (Try.f14.body.getD .skip) [])) :: L_fi
theorem tok_nl : TOk Kn Try.prog (lk L_nl) := lk_cons ok_nl tok_fi

theorem ok_acq : SummOk Kn Try.prog 15 (sumE [.any, .any, .any] false Try.prog (lk L_nl) 20 Try.f15 (Try.f15.body.getD .skip) []) := sumE_ok tok_nl Try.checked.mixed Try.func15 (by kernel_rfl) (by rfl) 20 []
noncomputable def L_acq : List (Nat × Summ) := (15, (sumE [.any, .any, .any] false Try.prog (lk L_nl) 20 Try.f15 (Try.f15.body.getD .skip) [])) :: L_nl
theorem tok_acq : TOk Kn Try.prog (lk L_acq) := lk_cons ok_acq tok_nl

theorem ok_rel : SummOk Kn Try.prog 16 (sumE [.any, .any, .any] false Try.prog (lk L_acq) 20 Try.f16 (Try.f16.body.getD .skip) []) := sumE_ok tok_acq Try.checked.mixed Try.func16 (by kernel_rfl) (by rfl) 20 []
noncomputable def L_rel : List (Nat × Summ) := (16, (sumE [.any, .any, .any] false Try.prog (lk L_acq) 20 Try.f16 (Try.f16.body.getD .skip) [])) :: L_acq
theorem tok_rel : TOk Kn Try.prog (lk L_rel) := lk_cons ok_rel tok_acq

theorem ok_what : SummOk Kn Try.prog 26 (sumE [.any, .any] false Try.prog (lk L_rel) 20 Try.f26 (Try.f26.body.getD .skip) []) := sumE_ok tok_rel Try.checked.mixed Try.func26 (by kernel_rfl) (by rfl) 20 []
noncomputable def L_what : List (Nat × Summ) := (26, (sumE [.any, .any] false Try.prog (lk L_rel) 20 Try.f26 (Try.f26.body.getD .skip) [])) :: L_rel
theorem tok_what : TOk Kn Try.prog (lk L_what) := lk_cons ok_what tok_rel

def ea_known : Unit → denAs [] := fun _ => ()
def eo_known : Unit → denObs [] := fun _ => ()
noncomputable def E_known : Unit → Tree (AV × List Ob) := fun _ => 
Tree.ret (AV.p (Part.one (Cell.v (Value.bool true))), [])
noncomputable def F_known : denAs [] → denObs [] → Tree (AV × List Ob) := fun x y => match x, y with
  | (), () => .ret (AV.b true, [])
theorem ev_known : ∀ a, (evalFnL Try.prog (lk L_what) 40 noL Try.f7 (Try.f7.body.getD .skip) [] (encAs [] (ea_known a)) (encOs [] (eo_known a))).run = (E_known a).run := by
  rintro ⟨⟩
  kernel_rfl
theorem fe_known : ∀ a y, (F_known (ea_known a) (eo_known a)).run = some y → (E_known a).run = some y := by
  rintro _ y h
  exact h
theorem ok_known : SummOk Kn Try.prog 7 (sumT [] false [] [] F_known) := sumT_view tok_what Try.checked.mixed Try.func7 (by kernel_rfl) (by rfl) 40 [] ea_known eo_known
  (by rintro ⟨⟩ ⟨⟩; exact ⟨(), rfl, rfl⟩) noL 0 (by rintro ⟨⟩; rfl) (noL_ok _ _ _ _ _ _) E_known ev_known fe_known
noncomputable def L_known : List (Nat × Summ) := (7, (sumT [] false [] [] F_known)) :: L_what
theorem tok_known : TOk Kn Try.prog (lk L_known) := lk_cons ok_known tok_what

end Go.Proofs.Ytebimchjglckoaa
