/-
  The contracts of the document's tables and ledgers (written by our own gen_sop.py).
-/
import Derived.Test.YtebimchjglckoaaSoH
import Derived.Test.YtebimchjglckoaaSoY
namespace Go.Proofs.Ytebimchjglckoaa.ref
open Go Go.Sy Go.Sz Go.So Go.Proofs.Ytebimchjglckoaa
set_option linter.unusedVariables false
set_option linter.unusedSimpArgs false
set_option linter.constructorNameAsVariable false
set_option maxRecDepth 100000

open led
noncomputable abbrev c_rnt : Code := Try.f20.body.getD .skip
def p_rnt : List Nat := [0, 1, 0, 1, 1, 1]
def sh_rnt : Shape := ⟨[(0, .c (.d rowsT)), (4, .c (.p 0 0)), (5, .c (.i .i64))], [.lit [.h 1, .h 2], .row rowsT, .row intsT]⟩
@[reducible] def A_rnt : Type := Rws × Int × Rws × Ints
def e_rnt : A_rnt → sh_rnt.den := fun ⟨b, i, a, c⟩ => ((b, (), i, ()), (((), (), ()), a, c, ()))
def v_rnt : sh_rnt.den → A_rnt := fun d => match d with
  | ((b, (), i, ()), (((), (), ()), a, c, ())) => (b, i, a, c)
def I_rnt : A_rnt → Prop := fun ⟨b, i, a, c⟩ => b.length ≤ 16 ∧ 0 ≤ i ∧ c.length ≤ i.toNat ∧ a.length ≤ i.toNat
noncomputable def G_rnt : A_rnt → Tree (Ex × St) := fun ⟨b, i, a, c⟩ => rntG b i a c
noncomputable def orc_rnt : Orc := ⟨sh_rnt, [(1000000, rowsT), (1000001, intsT)], [2, 3, 4], [], fun d => ckP (I_rnt (v_rnt d)) (G_rnt (v_rnt d))⟩
noncomputable def LT_rnt : LT := oneL p_rnt orc_rnt (noL)
noncomputable def T_rnt : Rws × Int × Rws × Ints → Tree (A_rnt ⊕ (Ex × St)) := fun ⟨b, i, a, c⟩ => 
Tree.ite (decide (i < (↑(List.length b) : Int))) (Tree.ite (decide ((0 : Int) ≤ i) && decide (i < (↑(List.length b) : Int))) (Tree.ite ((↑(List.length (List.getD b i.toNat ([], ())).fst) : Int) != (20 : Int)) (Tree.ret (Sum.inr (Ex.ret, { env := [((2 : Nat), AV.p (Part.one (Cell.v (Value.pointer none)))), ((3 : Nat), AV.p (Part.one (Cell.v (Value.int IntKind.i64 (112 : Int))))), ((4 : Nat), AV.p (Part.one (Cell.p (0 : Nat) (0 : Nat))))], hp := [((0 : Nat), Ob.lit [Cell.h (1 : Nat), Cell.h (2 : Nat)]), ((1 : Nat), Ob.row rowsT a), ((2 : Nat), Ob.row intsT c)], nx := (3 : Nat) }))) (Tree.ite (decide ((0 : Int) ≤ i) && decide (i < (↑(List.length b) : Int))) (Tree.ite (bytesOk ((0 : Nat) + List.length (List.getD b i.toNat ([], ())).fst) (1 : Nat) && ((0 : Nat) + List.length (List.getD b i.toNat ([], ())).fst).ble (140737488355328 : Nat)) (Tree.ite (bytesOk (List.length a + (1 : Nat)) (24 : Nat) && (List.length a + (1 : Nat)).ble (140737488355328 : Nat)) (Tree.ite (bytesOk (List.length c + (1 : Nat)) (8 : Nat) && (List.length c + (1 : Nat)).ble (140737488355328 : Nat)) (Tree.ret (Sum.inl (b, IntKind.i64.wrap (i + (1 : Int)), a ++ [([] ++ (List.getD b i.toNat ([], ())).fst, ())], c ++ [((1 : Int), ())]))) Tree.fail) Tree.fail) Tree.fail) Tree.fail)) Tree.fail) (Tree.ret (Sum.inr (Ex.exit (0 : Nat), { env := [((4 : Nat), AV.p (Part.one (Cell.p (0 : Nat) (0 : Nat))))], hp := [((0 : Nat), Ob.lit [Cell.h (1 : Nat), Cell.h (2 : Nat)]), ((1 : Nat), Ob.row rowsT a), ((2 : Nat), Ob.row intsT c)], nx := (3 : Nat) })))
theorem turn_rnt : ∀ a : A_rnt, (turnT 0 orc_rnt (evalCode Try.prog (lk L_held) Try.f20.ntmps 0 20 LT_rnt (bodyAt c_rnt p_rnt) false (0 :: p_rnt)) (sh_rnt.enc (e_rnt a))).run = ((T_rnt a).bind fun s => .ret (turnV sh_rnt e_rnt s)).run := by
  rintro ⟨b, i, a, c⟩
  kernel_rfl

def μ_rnt : A_rnt → Nat := fun ⟨b, i, a, c⟩ => b.length - i.toNat
theorem step_rnt : ∀ a : A_rnt, I_rnt a → (∃ a', (T_rnt a).run = some (.inl a') ∧ I_rnt a' ∧ μ_rnt a' < μ_rnt a ∧ (G_rnt a').run = (G_rnt a).run) ∨ (∃ y, (T_rnt a).run = some (.inr y) ∧ (G_rnt a).run = some y ∧ ((∃ id, y.1 = .exit id) ∨ y.1 = .ret)) := by
  rintro ⟨b, i, a, c⟩ ⟨h2, h3, h4, h5⟩
  simp only [T_rnt, G_rnt, Tree.run, cif, cif_not, ble_dec, bytesOk_dec, and_dec, bne_int]
  by_cases hi : i < b.length
  · rw [if_pos hi, if_pos ⟨h3, hi⟩]
    have hd := drop_cons (l := b) (i := i.toNat) (by omega) ([], ())
    by_cases hg : ((List.length (List.getD b i.toNat ([], ())).1 : Nat) : Int) = 20
    · left
      rw [if_neg (by omega), if_pos ⟨h3, hi⟩, if_pos (by omega), if_pos (by omega), if_pos (by omega), wrap64 (by omega) (by omega)]
      refine ⟨_, rfl, ⟨h2, by omega, by simp; omega, by simp; omega⟩, by simp only [μ_rnt]; omega, ?_⟩
      have hgo : good (List.getD b i.toNat ([], ())) = true := decide_eq_true hg
      simp only [rntG, Tree.run, hd, toNat_succ h3, List.all_cons, hgo, Bool.true_and, goods, List.takeWhile_cons, if_true, List.length_cons]
      simp [ones, List.replicate_succ]
    · right
      rw [if_pos hg]
      refine ⟨_, rfl, ?_, .inr rfl⟩
      have hgo : good (List.getD b i.toNat ([], ())) = false := decide_eq_false hg
      simp only [rntG, Tree.run, hd, List.all_cons, hgo, goods, Bool.false_and, cond_false, List.takeWhile_cons]
      simp [ones, rtabHp]
  · right
    rw [if_neg hi]
    refine ⟨_, rfl, ?_, .inl ⟨0, rfl⟩⟩
    rw [rntG, drop_end (by omega)]
    simp [ones, Tree.run, rtabHp]
theorem lok_rnt : LOk Try.prog (lk L_held) Try.f20.ntmps 0 20 LT_rnt c_rnt := lok_view (noL_ok2 _ _ _ _ _ _ _) (by kernel_rfl) e_rnt (by rintro ⟨⟨b, ⟨⟩, i, ⟨⟩⟩, ⟨⟨⟨⟩, ⟨⟩, ⟨⟩⟩, a, c, ⟨⟩⟩⟩; exact ⟨(b, i, a, c), rfl⟩) T_rnt turn_rnt I_rnt G_rnt (by rintro ⟨b, i, a, c⟩; rfl) μ_rnt step_rnt
def ea_rnt : Rws → denAs [.c (.d rowsT)] := fun b => (b, ())
def eo_rnt : Rws → denObs [] := fun b => ()
noncomputable def E_rnt : Rws → Tree (AV × List Ob) := fun b => 
Tree.ite (decide ((16 : Int) < (↑(List.length b) : Int))) (Tree.ret (AV.t [Part.one (Cell.v (Value.pointer none)), Part.one (Cell.v (Value.int IntKind.i64 (111 : Int)))], [])) (Tree.ite (decC (List.length b ≤ (16 : Nat) ∧ (0 : Int) ≤ (0 : Int) ∧ (0 : Nat) ≤ (0 : Nat) ∧ (0 : Nat) ≤ (0 : Nat))) (Tree.ite ((List.drop (0 : Nat) b).all good) (Tree.ret (AV.t [Part.one (Cell.p (0 : Nat) (0 : Nat)), Part.one (Cell.v (Value.int IntKind.i64 (0 : Int)))], [Ob.lit [Cell.h (1 : Nat), Cell.h (2 : Nat)], Ob.row rowsT ([] ++ List.drop (0 : Nat) b), Ob.row intsT ([] ++ ones (List.drop (0 : Nat) b).length)])) (Tree.ret (AV.t [Part.one (Cell.v (Value.pointer none)), Part.one (Cell.v (Value.int IntKind.i64 (112 : Int)))], []))) Tree.fail)
noncomputable def F_rnt : denAs [.c (.d rowsT)] → denObs [] → Tree (AV × List Ob) := fun x y => match x, y with
  | (b, ()), () => rnewTab b
theorem ev_rnt : ∀ a, (evalFnL Try.prog (lk L_held) 20 LT_rnt Try.f20 c_rnt [] (encAs [.c (.d rowsT)] (ea_rnt a)) (encOs [] (eo_rnt a))).run = (E_rnt a).run := by
  rintro b
  kernel_rfl
theorem fe_rnt : ∀ a y, (F_rnt (ea_rnt a) (eo_rnt a)).run = some y → (E_rnt a).run = some y := by
  rintro b y h
  rw [← h]
  change (E_rnt b).run = (rnewTab b).run
  simp only [E_rnt, rnewTab, Tree.run, cif, List.drop_zero, List.nil_append]
  by_cases h1 : b.length ≤ 16
  · rw [if_neg (by omega), if_neg (by omega), cifC ⟨h1, by omega, by omega, by omega⟩]; rfl
  · rw [if_pos (by omega), if_pos (by omega)]
theorem ok_rnt : SummOk Kn Try.prog 20 (sumT [.dp rowsT] true [.c (.d rowsT)] [] F_rnt) := sumT_view tok_held Try.checked.mixed Try.func20 (by kernel_rfl) (by rfl) 20 [] ea_rnt eo_rnt
  (by rintro ⟨b, ⟨⟩⟩ ⟨⟩; exact ⟨b, rfl, rfl⟩) LT_rnt 0 (by rintro ⟨⟩; rfl) lok_rnt E_rnt ev_rnt fe_rnt
noncomputable def L_rnt : List (Nat × Summ) := (20, (sumT [.dp rowsT] true [.c (.d rowsT)] [] F_rnt)) :: L_held
theorem tok_rnt : TOk Kn Try.prog (lk L_rnt) := lk_cons ok_rnt tok_held

theorem ok_rthere : SummOk Kn Try.prog 37 (sumE [.own 2, .any] false Try.prog (lk L_rnt) 20 Try.f37 (Try.f37.body.getD .skip) []) := sumE_ok tok_rnt Try.checked.mixed Try.func37 (by kernel_rfl) (by rfl) 20 []
noncomputable def L_rthere : List (Nat × Summ) := (37, (sumE [.own 2, .any] false Try.prog (lk L_rnt) 20 Try.f37 (Try.f37.body.getD .skip) [])) :: L_rnt
theorem tok_rthere : TOk Kn Try.prog (lk L_rthere) := lk_cons ok_rthere tok_rnt

theorem ok_rlen : SummOk Kn Try.prog 29 (sumE [.own 2] false Try.prog (lk L_rthere) 20 Try.f29 (Try.f29.body.getD .skip) []) := sumE_ok tok_rthere Try.checked.mixed Try.func29 (by kernel_rfl) (by rfl) 20 []
noncomputable def L_rlen : List (Nat × Summ) := (29, (sumE [.own 2] false Try.prog (lk L_rthere) 20 Try.f29 (Try.f29.body.getD .skip) [])) :: L_rthere
theorem tok_rlen : TOk Kn Try.prog (lk L_rlen) := lk_cons ok_rlen tok_rthere

theorem ok_rcounts : SummOk Kn Try.prog 28 (sumE [.own 2] false Try.prog (lk L_rlen) 20 Try.f28 (Try.f28.body.getD .skip) []) := sumE_ok tok_rlen Try.checked.mixed Try.func28 (by kernel_rfl) (by rfl) 20 []
noncomputable def L_rcounts : List (Nat × Summ) := (28, (sumE [.own 2] false Try.prog (lk L_rlen) 20 Try.f28 (Try.f28.body.getD .skip) [])) :: L_rlen
theorem tok_rcounts : TOk Kn Try.prog (lk L_rcounts) := lk_cons ok_rcounts tok_rlen

theorem ok_rtake : SummOk Kn Try.prog 21 (sumE [.own 2, .any] false Try.prog (lk L_rcounts) 20 Try.f21 (Try.f21.body.getD .skip) []) := sumE_ok tok_rcounts Try.checked.mixed Try.func21 (by kernel_rfl) (by rfl) 20 []
noncomputable def L_rtake : List (Nat × Summ) := (21, (sumE [.own 2, .any] false Try.prog (lk L_rcounts) 20 Try.f21 (Try.f21.body.getD .skip) [])) :: L_rcounts
theorem tok_rtake : TOk Kn Try.prog (lk L_rtake) := lk_cons ok_rtake tok_rcounts

theorem ok_rdrop : SummOk Kn Try.prog 22 (sumE [.own 2, .any] false Try.prog (lk L_rtake) 20 Try.f22 (Try.f22.body.getD .skip) []) := sumE_ok tok_rtake Try.checked.mixed Try.func22 (by kernel_rfl) (by rfl) 20 []
noncomputable def L_rdrop : List (Nat × Summ) := (22, (sumE [.own 2, .any] false Try.prog (lk L_rtake) 20 Try.f22 (Try.f22.body.getD .skip) [])) :: L_rtake
theorem tok_rdrop : TOk Kn Try.prog (lk L_rdrop) := lk_cons ok_rdrop tok_rtake

noncomputable abbrev c_rfi : Code := Try.f23.body.getD .skip
def p_rfiA : List Nat := [1, 0, 1, 1, 1]
def sh_rfiA : Shape := ⟨[(0, .c (.p 0 0)), (1, .c (.i .i64)), (2, .c (.i .i64)), (3, .c (.i .i64)), (10, .c (.i .i64)), (17, .c (.i .i64))], [.lit [.h 1, .h 2], .row rowsT, .row intsT]⟩
@[reducible] def A_rfiA : Type := Int × Int × Int × Int × Rws × Ints × Int
def e_rfiA : A_rfiA → sh_rfiA.den := fun ⟨i, off, size, n, b, c, q⟩ => (((), i, off, size, n, q, ()), (((), (), ()), b, c, ()))
def v_rfiA : sh_rfiA.den → A_rfiA := fun d => match d with
  | (((), i, off, size, n, q, ()), (((), (), ()), b, c, ())) => (i, off, size, n, b, c, q)
def I_rfiA : A_rfiA → Prop := fun ⟨i, off, size, n, b, c, q⟩ => n = 0
noncomputable def G_rfiA : A_rfiA → Tree (Ex × St) := fun ⟨i, off, size, n, b, c, q⟩ => .ret (.normal, ⟨[(0, .p (.one (.p 0 0))), (1, .p (.one (.v (.int .i64 (i))))), (2, .p (.one (.v (.int .i64 (off))))), (3, .p (.one (.v (.int .i64 (size))))), (10, .p (.one (.v (.int .i64 (wideF q)))))], rtabHp b c, 3⟩)
noncomputable def orc_rfiA : Orc := ⟨sh_rfiA, [], [0, 1, 2, 3, 10], [], fun d => ckP (I_rfiA (v_rfiA d)) (G_rfiA (v_rfiA d))⟩
def p_rfiB : List Nat := [0, 0, 1, 1, 1, 1]
def sh_rfiB : Shape := ⟨[(0, .c (.p 0 0)), (1, .c (.i .i64)), (2, .c (.i .i64)), (3, .c (.i .i64)), (10, .c (.i .i64))], [.lit [.h 1, .h 2], .row rowsT, .row intsT]⟩
@[reducible] def A_rfiB : Type := Int × Int × Int × Int × Rws × Ints
def e_rfiB : A_rfiB → sh_rfiB.den := fun ⟨i, off, size, n, b, c⟩ => (((), i, off, size, n, ()), (((), (), ()), b, c, ()))
def v_rfiB : sh_rfiB.den → A_rfiB := fun d => match d with
  | (((), i, off, size, n, ()), (((), (), ()), b, c, ())) => (i, off, size, n, b, c)
def I_rfiB : A_rfiB → Prop := fun ⟨i, off, size, n, b, c⟩ => True
noncomputable def G_rfiB : A_rfiB → Tree (Ex × St) := fun ⟨i, off, size, n, b, c⟩ => .ret (.normal, ⟨[(0, .p (.one (.p 0 0))), (1, .p (.one (.v (.int .i64 (i))))), (2, .p (.one (.v (.int .i64 (off))))), (3, .p (.one (.v (.int .i64 (size))))), (44, .p (.one (.v (.bool (badF size n)))))], rtabHp b c, 3⟩)
noncomputable def orc_rfiB : Orc := ⟨sh_rfiB, [], [0, 1, 2, 3, 44], [], fun d => ckP (I_rfiB (v_rfiB d)) (G_rfiB (v_rfiB d))⟩
def p_rfi : List Nat := [0, 1, 0, 1, 1, 1, 1, 1, 1]
def sh_rfi : Shape := ⟨[(0, .c (.p 0 0)), (1, .c (.i .i64)), (2, .c (.i .i64)), (11, .c (.w .u64)), (12, .c (.i .i64))], [.lit [.h 1, .h 2], .row rowsT, .row intsT]⟩
@[reducible] def A_rfi : Type := Int × Int × (BitVec 64) × Int × Rws × Ints
def e_rfi : A_rfi → sh_rfi.den := fun ⟨i, off, v, k, b, c⟩ => (((), i, off, v, k, ()), (((), (), ()), b, c, ()))
def v_rfi : sh_rfi.den → A_rfi := fun d => match d with
  | (((), i, off, v, k, ()), (((), (), ()), b, c, ())) => (i, off, v, k, b, c)
def I_rfi : A_rfi → Prop := fun ⟨i, off, v, k, b, c⟩ => 0 ≤ i ∧ i < b.length ∧ 0 ≤ off ∧ -1 ≤ k ∧ off + k < (b.getD i.toNat ([], ())).1.length ∧ (b.getD i.toNat ([], ())).1.length ≤ 20
noncomputable def G_rfi : A_rfi → Tree (Ex × St) := fun ⟨i, off, v, k, b, c⟩ => .ret (.exit 1, ⟨[(11, .p (.one (.w .u64 (up (b.getD i.toNat ([], ())).1 off.toNat (k + 1).toNat v))))], rtabHp b c, 3⟩)
noncomputable def orc_rfi : Orc := ⟨sh_rfi, [], [11], [], fun d => ckP (I_rfi (v_rfi d)) (G_rfi (v_rfi d))⟩
noncomputable def LT_rfi : LT := oneL p_rfiA orc_rfiA (oneL p_rfiB orc_rfiB (oneL p_rfi orc_rfi (noL)))
noncomputable def T_rfi : Int × Int × (BitVec 64) × Int × Rws × Ints → Tree (A_rfi ⊕ (Ex × St)) := fun ⟨i, off, v, k, b, c⟩ => 
Tree.ite (decide ((0 : Int) ≤ k)) (Tree.ite (decide ((0 : Int) ≤ i) && decide (i < (↑(List.length b) : Int))) (Tree.ite (decide ((0 : Int) ≤ IntKind.i64.wrap (off + k)) && decide (IntKind.i64.wrap (off + k) < (↑(List.length (List.getD b i.toNat ([], ())).fst) : Int))) (Tree.ret (Sum.inl (i, off, BitVec.ofInt (64 : Nat) (256 : Int) * v + BitVec.setWidth (64 : Nat) (List.getD (List.getD b i.toNat ([], ())).fst (IntKind.i64.wrap (off + k)).toNat (BitVec.ofNat (8 : Nat) (0 : Nat), ())).fst, IntKind.i64.wrap (k - (1 : Int)), b, c))) Tree.fail) Tree.fail) (Tree.ret (Sum.inr (Ex.exit (1 : Nat), { env := [((11 : Nat), AV.p (Part.one (Cell.w IntKind.u64 v)))], hp := [((0 : Nat), Ob.lit [Cell.h (1 : Nat), Cell.h (2 : Nat)]), ((1 : Nat), Ob.row rowsT b), ((2 : Nat), Ob.row intsT c)], nx := (3 : Nat) })))
theorem turn_rfi : ∀ a : A_rfi, (turnT 3 orc_rfi (evalCode Try.prog (lk L_rdrop) Try.f23.ntmps 3 20 LT_rfi (bodyAt c_rfi p_rfi) false (0 :: p_rfi)) (sh_rfi.enc (e_rfi a))).run = ((T_rfi a).bind fun s => .ret (turnV sh_rfi e_rfi s)).run := by
  rintro ⟨i, off, v, k, b, c⟩
  kernel_rfl

def μ_rfi : A_rfi → Nat := fun ⟨i, off, v, k, b, c⟩ => (k + 1).toNat
theorem step_rfi : ∀ a : A_rfi, I_rfi a → (∃ a', (T_rfi a).run = some (.inl a') ∧ I_rfi a' ∧ μ_rfi a' < μ_rfi a ∧ (G_rfi a').run = (G_rfi a).run) ∨ (∃ y, (T_rfi a).run = some (.inr y) ∧ (G_rfi a).run = some y ∧ ((∃ id, y.1 = .exit id) ∨ y.1 = .ret)) := by
  rintro ⟨i, off, v, k, b, c⟩ ⟨h0, h01, h1, h2, h3, h4⟩
  simp only [T_rfi, G_rfi]
  by_cases hk : 0 ≤ k
  · left
    rw [wrap64 (n := off + k) (by omega) (by omega), wrap64 (n := k - 1) (by omega) (by omega), goTd hk, goTa ⟨h0, h01⟩, goTa ⟨by omega, h3⟩]
    refine ⟨_, rfl, ⟨h0, h01, h1, by omega, by omega, h4⟩, by simp only [μ_rfi]; omega, ?_⟩
    rw [show (k + 1).toNat = (k - 1 + 1).toNat + 1 by omega, up, show off.toNat + (k - 1 + 1).toNat = (off + k).toNat by omega]
    rfl
  · right
    rw [goFd hk]
    refine ⟨_, rfl, ?_, .inl ⟨1, rfl⟩⟩
    rw [show (k + 1).toNat = 0 by omega, up]; rfl
noncomputable def T_rfiB : Int × Int × Int × Int × Rws × Ints → Tree (Ex × St) := fun ⟨i, off, size, n, b, c⟩ => 
Tree.ite (size != (1 : Int)) (Tree.ite (size != (2 : Int)) (Tree.ite (size != (4 : Int)) (Tree.ite (!size != (8 : Int)) (Tree.ret (Ex.normal, { env := [((0 : Nat), AV.p (Part.one (Cell.p (0 : Nat) (0 : Nat)))), ((1 : Nat), AV.p (Part.one (Cell.v (Value.int IntKind.i64 i)))), ((2 : Nat), AV.p (Part.one (Cell.v (Value.int IntKind.i64 off)))), ((3 : Nat), AV.p (Part.one (Cell.v (Value.int IntKind.i64 size)))), ((44 : Nat), AV.p (Part.one (Cell.v (Value.bool (decide (n < size))))))], hp := [((0 : Nat), Ob.lit [Cell.h (1 : Nat), Cell.h (2 : Nat)]), ((1 : Nat), Ob.row rowsT b), ((2 : Nat), Ob.row intsT c)], nx := (3 : Nat) })) (Tree.ret (Ex.normal, { env := [((0 : Nat), AV.p (Part.one (Cell.p (0 : Nat) (0 : Nat)))), ((1 : Nat), AV.p (Part.one (Cell.v (Value.int IntKind.i64 i)))), ((2 : Nat), AV.p (Part.one (Cell.v (Value.int IntKind.i64 off)))), ((3 : Nat), AV.p (Part.one (Cell.v (Value.int IntKind.i64 size)))), ((44 : Nat), AV.p (Part.one (Cell.v (Value.bool true))))], hp := [((0 : Nat), Ob.lit [Cell.h (1 : Nat), Cell.h (2 : Nat)]), ((1 : Nat), Ob.row rowsT b), ((2 : Nat), Ob.row intsT c)], nx := (3 : Nat) }))) (Tree.ret (Ex.normal, { env := [((0 : Nat), AV.p (Part.one (Cell.p (0 : Nat) (0 : Nat)))), ((1 : Nat), AV.p (Part.one (Cell.v (Value.int IntKind.i64 i)))), ((2 : Nat), AV.p (Part.one (Cell.v (Value.int IntKind.i64 off)))), ((3 : Nat), AV.p (Part.one (Cell.v (Value.int IntKind.i64 size)))), ((44 : Nat), AV.p (Part.one (Cell.v (Value.bool (decide (n < size))))))], hp := [((0 : Nat), Ob.lit [Cell.h (1 : Nat), Cell.h (2 : Nat)]), ((1 : Nat), Ob.row rowsT b), ((2 : Nat), Ob.row intsT c)], nx := (3 : Nat) }))) (Tree.ret (Ex.normal, { env := [((0 : Nat), AV.p (Part.one (Cell.p (0 : Nat) (0 : Nat)))), ((1 : Nat), AV.p (Part.one (Cell.v (Value.int IntKind.i64 i)))), ((2 : Nat), AV.p (Part.one (Cell.v (Value.int IntKind.i64 off)))), ((3 : Nat), AV.p (Part.one (Cell.v (Value.int IntKind.i64 size)))), ((44 : Nat), AV.p (Part.one (Cell.v (Value.bool (decide (n < size))))))], hp := [((0 : Nat), Ob.lit [Cell.h (1 : Nat), Cell.h (2 : Nat)]), ((1 : Nat), Ob.row rowsT b), ((2 : Nat), Ob.row intsT c)], nx := (3 : Nat) }))) (Tree.ret (Ex.normal, { env := [((0 : Nat), AV.p (Part.one (Cell.p (0 : Nat) (0 : Nat)))), ((1 : Nat), AV.p (Part.one (Cell.v (Value.int IntKind.i64 i)))), ((2 : Nat), AV.p (Part.one (Cell.v (Value.int IntKind.i64 off)))), ((3 : Nat), AV.p (Part.one (Cell.v (Value.int IntKind.i64 size)))), ((44 : Nat), AV.p (Part.one (Cell.v (Value.bool (decide (n < size))))))], hp := [((0 : Nat), Ob.lit [Cell.h (1 : Nat), Cell.h (2 : Nat)]), ((1 : Nat), Ob.row rowsT b), ((2 : Nat), Ob.row intsT c)], nx := (3 : Nat) }))
theorem turn_rfiB : ∀ a : A_rfiB, (endT 3 orc_rfiB (evalCode Try.prog (lk L_rdrop) Try.f23.ntmps 3 20 LT_rfi ((subAt c_rfi p_rfiB).getD .skip) true p_rfiB) (sh_rfiB.enc (e_rfiB a))).run = (T_rfiB a).run := by
  rintro ⟨i, off, size, n, b, c⟩
  kernel_rfl

theorem step_rfiB : ∀ a y, I_rfiB a → (G_rfiB a).run = some y → (T_rfiB a).run = some y := by
  rintro ⟨i, off, size, n, b, c⟩ y _ h
  rw [← h]
  simp only [T_rfiB, G_rfiB, badF]
  cases (size != 1) <;> cases (size != 2) <;> cases (size != 4) <;> cases (size != 8) <;> rfl
noncomputable def T_rfiA : Int × Int × Int × Int × Rws × Ints × Int → Tree (Ex × St) := fun ⟨i, off, size, n, b, c, q⟩ => 
Tree.ite (q == (0 : Int)) (Tree.ite (q == (0 : Int)) (Tree.ret (Ex.normal, { env := [((0 : Nat), AV.p (Part.one (Cell.p (0 : Nat) (0 : Nat)))), ((1 : Nat), AV.p (Part.one (Cell.v (Value.int IntKind.i64 i)))), ((2 : Nat), AV.p (Part.one (Cell.v (Value.int IntKind.i64 off)))), ((3 : Nat), AV.p (Part.one (Cell.v (Value.int IntKind.i64 size)))), ((10 : Nat), AV.p (Part.one (Cell.v (Value.int IntKind.i64 (4 : Int)))))], hp := [((0 : Nat), Ob.lit [Cell.h (1 : Nat), Cell.h (2 : Nat)]), ((1 : Nat), Ob.row rowsT b), ((2 : Nat), Ob.row intsT c)], nx := (3 : Nat) })) (Tree.ite (q == (12 : Int)) (Tree.ite (q == (12 : Int)) (Tree.ret (Ex.normal, { env := [((0 : Nat), AV.p (Part.one (Cell.p (0 : Nat) (0 : Nat)))), ((1 : Nat), AV.p (Part.one (Cell.v (Value.int IntKind.i64 i)))), ((2 : Nat), AV.p (Part.one (Cell.v (Value.int IntKind.i64 off)))), ((3 : Nat), AV.p (Part.one (Cell.v (Value.int IntKind.i64 size)))), ((10 : Nat), AV.p (Part.one (Cell.v (Value.int IntKind.i64 (2 : Int)))))], hp := [((0 : Nat), Ob.lit [Cell.h (1 : Nat), Cell.h (2 : Nat)]), ((1 : Nat), Ob.row rowsT b), ((2 : Nat), Ob.row intsT c)], nx := (3 : Nat) })) (Tree.ret (Ex.normal, { env := [((0 : Nat), AV.p (Part.one (Cell.p (0 : Nat) (0 : Nat)))), ((1 : Nat), AV.p (Part.one (Cell.v (Value.int IntKind.i64 i)))), ((2 : Nat), AV.p (Part.one (Cell.v (Value.int IntKind.i64 off)))), ((3 : Nat), AV.p (Part.one (Cell.v (Value.int IntKind.i64 size)))), ((10 : Nat), AV.p (Part.one (Cell.v (Value.int IntKind.i64 n))))], hp := [((0 : Nat), Ob.lit [Cell.h (1 : Nat), Cell.h (2 : Nat)]), ((1 : Nat), Ob.row rowsT b), ((2 : Nat), Ob.row intsT c)], nx := (3 : Nat) }))) (Tree.ite (q == (14 : Int)) (Tree.ret (Ex.normal, { env := [((0 : Nat), AV.p (Part.one (Cell.p (0 : Nat) (0 : Nat)))), ((1 : Nat), AV.p (Part.one (Cell.v (Value.int IntKind.i64 i)))), ((2 : Nat), AV.p (Part.one (Cell.v (Value.int IntKind.i64 off)))), ((3 : Nat), AV.p (Part.one (Cell.v (Value.int IntKind.i64 size)))), ((10 : Nat), AV.p (Part.one (Cell.v (Value.int IntKind.i64 (2 : Int)))))], hp := [((0 : Nat), Ob.lit [Cell.h (1 : Nat), Cell.h (2 : Nat)]), ((1 : Nat), Ob.row rowsT b), ((2 : Nat), Ob.row intsT c)], nx := (3 : Nat) })) (Tree.ret (Ex.normal, { env := [((0 : Nat), AV.p (Part.one (Cell.p (0 : Nat) (0 : Nat)))), ((1 : Nat), AV.p (Part.one (Cell.v (Value.int IntKind.i64 i)))), ((2 : Nat), AV.p (Part.one (Cell.v (Value.int IntKind.i64 off)))), ((3 : Nat), AV.p (Part.one (Cell.v (Value.int IntKind.i64 size)))), ((10 : Nat), AV.p (Part.one (Cell.v (Value.int IntKind.i64 n))))], hp := [((0 : Nat), Ob.lit [Cell.h (1 : Nat), Cell.h (2 : Nat)]), ((1 : Nat), Ob.row rowsT b), ((2 : Nat), Ob.row intsT c)], nx := (3 : Nat) }))))) (Tree.ite (q == (4 : Int)) (Tree.ite (q == (4 : Int)) (Tree.ret (Ex.normal, { env := [((0 : Nat), AV.p (Part.one (Cell.p (0 : Nat) (0 : Nat)))), ((1 : Nat), AV.p (Part.one (Cell.v (Value.int IntKind.i64 i)))), ((2 : Nat), AV.p (Part.one (Cell.v (Value.int IntKind.i64 off)))), ((3 : Nat), AV.p (Part.one (Cell.v (Value.int IntKind.i64 size)))), ((10 : Nat), AV.p (Part.one (Cell.v (Value.int IntKind.i64 (4 : Int)))))], hp := [((0 : Nat), Ob.lit [Cell.h (1 : Nat), Cell.h (2 : Nat)]), ((1 : Nat), Ob.row rowsT b), ((2 : Nat), Ob.row intsT c)], nx := (3 : Nat) })) (Tree.ite (q == (12 : Int)) (Tree.ite (q == (12 : Int)) (Tree.ret (Ex.normal, { env := [((0 : Nat), AV.p (Part.one (Cell.p (0 : Nat) (0 : Nat)))), ((1 : Nat), AV.p (Part.one (Cell.v (Value.int IntKind.i64 i)))), ((2 : Nat), AV.p (Part.one (Cell.v (Value.int IntKind.i64 off)))), ((3 : Nat), AV.p (Part.one (Cell.v (Value.int IntKind.i64 size)))), ((10 : Nat), AV.p (Part.one (Cell.v (Value.int IntKind.i64 (2 : Int)))))], hp := [((0 : Nat), Ob.lit [Cell.h (1 : Nat), Cell.h (2 : Nat)]), ((1 : Nat), Ob.row rowsT b), ((2 : Nat), Ob.row intsT c)], nx := (3 : Nat) })) (Tree.ret (Ex.normal, { env := [((0 : Nat), AV.p (Part.one (Cell.p (0 : Nat) (0 : Nat)))), ((1 : Nat), AV.p (Part.one (Cell.v (Value.int IntKind.i64 i)))), ((2 : Nat), AV.p (Part.one (Cell.v (Value.int IntKind.i64 off)))), ((3 : Nat), AV.p (Part.one (Cell.v (Value.int IntKind.i64 size)))), ((10 : Nat), AV.p (Part.one (Cell.v (Value.int IntKind.i64 n))))], hp := [((0 : Nat), Ob.lit [Cell.h (1 : Nat), Cell.h (2 : Nat)]), ((1 : Nat), Ob.row rowsT b), ((2 : Nat), Ob.row intsT c)], nx := (3 : Nat) }))) (Tree.ite (q == (14 : Int)) (Tree.ret (Ex.normal, { env := [((0 : Nat), AV.p (Part.one (Cell.p (0 : Nat) (0 : Nat)))), ((1 : Nat), AV.p (Part.one (Cell.v (Value.int IntKind.i64 i)))), ((2 : Nat), AV.p (Part.one (Cell.v (Value.int IntKind.i64 off)))), ((3 : Nat), AV.p (Part.one (Cell.v (Value.int IntKind.i64 size)))), ((10 : Nat), AV.p (Part.one (Cell.v (Value.int IntKind.i64 (2 : Int)))))], hp := [((0 : Nat), Ob.lit [Cell.h (1 : Nat), Cell.h (2 : Nat)]), ((1 : Nat), Ob.row rowsT b), ((2 : Nat), Ob.row intsT c)], nx := (3 : Nat) })) (Tree.ret (Ex.normal, { env := [((0 : Nat), AV.p (Part.one (Cell.p (0 : Nat) (0 : Nat)))), ((1 : Nat), AV.p (Part.one (Cell.v (Value.int IntKind.i64 i)))), ((2 : Nat), AV.p (Part.one (Cell.v (Value.int IntKind.i64 off)))), ((3 : Nat), AV.p (Part.one (Cell.v (Value.int IntKind.i64 size)))), ((10 : Nat), AV.p (Part.one (Cell.v (Value.int IntKind.i64 n))))], hp := [((0 : Nat), Ob.lit [Cell.h (1 : Nat), Cell.h (2 : Nat)]), ((1 : Nat), Ob.row rowsT b), ((2 : Nat), Ob.row intsT c)], nx := (3 : Nat) }))))) (Tree.ite (q == (8 : Int)) (Tree.ite (q == (8 : Int)) (Tree.ret (Ex.normal, { env := [((0 : Nat), AV.p (Part.one (Cell.p (0 : Nat) (0 : Nat)))), ((1 : Nat), AV.p (Part.one (Cell.v (Value.int IntKind.i64 i)))), ((2 : Nat), AV.p (Part.one (Cell.v (Value.int IntKind.i64 off)))), ((3 : Nat), AV.p (Part.one (Cell.v (Value.int IntKind.i64 size)))), ((10 : Nat), AV.p (Part.one (Cell.v (Value.int IntKind.i64 (4 : Int)))))], hp := [((0 : Nat), Ob.lit [Cell.h (1 : Nat), Cell.h (2 : Nat)]), ((1 : Nat), Ob.row rowsT b), ((2 : Nat), Ob.row intsT c)], nx := (3 : Nat) })) (Tree.ite (q == (12 : Int)) (Tree.ite (q == (12 : Int)) (Tree.ret (Ex.normal, { env := [((0 : Nat), AV.p (Part.one (Cell.p (0 : Nat) (0 : Nat)))), ((1 : Nat), AV.p (Part.one (Cell.v (Value.int IntKind.i64 i)))), ((2 : Nat), AV.p (Part.one (Cell.v (Value.int IntKind.i64 off)))), ((3 : Nat), AV.p (Part.one (Cell.v (Value.int IntKind.i64 size)))), ((10 : Nat), AV.p (Part.one (Cell.v (Value.int IntKind.i64 (2 : Int)))))], hp := [((0 : Nat), Ob.lit [Cell.h (1 : Nat), Cell.h (2 : Nat)]), ((1 : Nat), Ob.row rowsT b), ((2 : Nat), Ob.row intsT c)], nx := (3 : Nat) })) (Tree.ret (Ex.normal, { env := [((0 : Nat), AV.p (Part.one (Cell.p (0 : Nat) (0 : Nat)))), ((1 : Nat), AV.p (Part.one (Cell.v (Value.int IntKind.i64 i)))), ((2 : Nat), AV.p (Part.one (Cell.v (Value.int IntKind.i64 off)))), ((3 : Nat), AV.p (Part.one (Cell.v (Value.int IntKind.i64 size)))), ((10 : Nat), AV.p (Part.one (Cell.v (Value.int IntKind.i64 n))))], hp := [((0 : Nat), Ob.lit [Cell.h (1 : Nat), Cell.h (2 : Nat)]), ((1 : Nat), Ob.row rowsT b), ((2 : Nat), Ob.row intsT c)], nx := (3 : Nat) }))) (Tree.ite (q == (14 : Int)) (Tree.ret (Ex.normal, { env := [((0 : Nat), AV.p (Part.one (Cell.p (0 : Nat) (0 : Nat)))), ((1 : Nat), AV.p (Part.one (Cell.v (Value.int IntKind.i64 i)))), ((2 : Nat), AV.p (Part.one (Cell.v (Value.int IntKind.i64 off)))), ((3 : Nat), AV.p (Part.one (Cell.v (Value.int IntKind.i64 size)))), ((10 : Nat), AV.p (Part.one (Cell.v (Value.int IntKind.i64 (2 : Int)))))], hp := [((0 : Nat), Ob.lit [Cell.h (1 : Nat), Cell.h (2 : Nat)]), ((1 : Nat), Ob.row rowsT b), ((2 : Nat), Ob.row intsT c)], nx := (3 : Nat) })) (Tree.ret (Ex.normal, { env := [((0 : Nat), AV.p (Part.one (Cell.p (0 : Nat) (0 : Nat)))), ((1 : Nat), AV.p (Part.one (Cell.v (Value.int IntKind.i64 i)))), ((2 : Nat), AV.p (Part.one (Cell.v (Value.int IntKind.i64 off)))), ((3 : Nat), AV.p (Part.one (Cell.v (Value.int IntKind.i64 size)))), ((10 : Nat), AV.p (Part.one (Cell.v (Value.int IntKind.i64 n))))], hp := [((0 : Nat), Ob.lit [Cell.h (1 : Nat), Cell.h (2 : Nat)]), ((1 : Nat), Ob.row rowsT b), ((2 : Nat), Ob.row intsT c)], nx := (3 : Nat) }))))) (Tree.ite (q == (16 : Int)) (Tree.ret (Ex.normal, { env := [((0 : Nat), AV.p (Part.one (Cell.p (0 : Nat) (0 : Nat)))), ((1 : Nat), AV.p (Part.one (Cell.v (Value.int IntKind.i64 i)))), ((2 : Nat), AV.p (Part.one (Cell.v (Value.int IntKind.i64 off)))), ((3 : Nat), AV.p (Part.one (Cell.v (Value.int IntKind.i64 size)))), ((10 : Nat), AV.p (Part.one (Cell.v (Value.int IntKind.i64 (4 : Int)))))], hp := [((0 : Nat), Ob.lit [Cell.h (1 : Nat), Cell.h (2 : Nat)]), ((1 : Nat), Ob.row rowsT b), ((2 : Nat), Ob.row intsT c)], nx := (3 : Nat) })) (Tree.ite (q == (12 : Int)) (Tree.ite (q == (12 : Int)) (Tree.ret (Ex.normal, { env := [((0 : Nat), AV.p (Part.one (Cell.p (0 : Nat) (0 : Nat)))), ((1 : Nat), AV.p (Part.one (Cell.v (Value.int IntKind.i64 i)))), ((2 : Nat), AV.p (Part.one (Cell.v (Value.int IntKind.i64 off)))), ((3 : Nat), AV.p (Part.one (Cell.v (Value.int IntKind.i64 size)))), ((10 : Nat), AV.p (Part.one (Cell.v (Value.int IntKind.i64 (2 : Int)))))], hp := [((0 : Nat), Ob.lit [Cell.h (1 : Nat), Cell.h (2 : Nat)]), ((1 : Nat), Ob.row rowsT b), ((2 : Nat), Ob.row intsT c)], nx := (3 : Nat) })) (Tree.ret (Ex.normal, { env := [((0 : Nat), AV.p (Part.one (Cell.p (0 : Nat) (0 : Nat)))), ((1 : Nat), AV.p (Part.one (Cell.v (Value.int IntKind.i64 i)))), ((2 : Nat), AV.p (Part.one (Cell.v (Value.int IntKind.i64 off)))), ((3 : Nat), AV.p (Part.one (Cell.v (Value.int IntKind.i64 size)))), ((10 : Nat), AV.p (Part.one (Cell.v (Value.int IntKind.i64 n))))], hp := [((0 : Nat), Ob.lit [Cell.h (1 : Nat), Cell.h (2 : Nat)]), ((1 : Nat), Ob.row rowsT b), ((2 : Nat), Ob.row intsT c)], nx := (3 : Nat) }))) (Tree.ite (q == (14 : Int)) (Tree.ret (Ex.normal, { env := [((0 : Nat), AV.p (Part.one (Cell.p (0 : Nat) (0 : Nat)))), ((1 : Nat), AV.p (Part.one (Cell.v (Value.int IntKind.i64 i)))), ((2 : Nat), AV.p (Part.one (Cell.v (Value.int IntKind.i64 off)))), ((3 : Nat), AV.p (Part.one (Cell.v (Value.int IntKind.i64 size)))), ((10 : Nat), AV.p (Part.one (Cell.v (Value.int IntKind.i64 (2 : Int)))))], hp := [((0 : Nat), Ob.lit [Cell.h (1 : Nat), Cell.h (2 : Nat)]), ((1 : Nat), Ob.row rowsT b), ((2 : Nat), Ob.row intsT c)], nx := (3 : Nat) })) (Tree.ret (Ex.normal, { env := [((0 : Nat), AV.p (Part.one (Cell.p (0 : Nat) (0 : Nat)))), ((1 : Nat), AV.p (Part.one (Cell.v (Value.int IntKind.i64 i)))), ((2 : Nat), AV.p (Part.one (Cell.v (Value.int IntKind.i64 off)))), ((3 : Nat), AV.p (Part.one (Cell.v (Value.int IntKind.i64 size)))), ((10 : Nat), AV.p (Part.one (Cell.v (Value.int IntKind.i64 n))))], hp := [((0 : Nat), Ob.lit [Cell.h (1 : Nat), Cell.h (2 : Nat)]), ((1 : Nat), Ob.row rowsT b), ((2 : Nat), Ob.row intsT c)], nx := (3 : Nat) })))))))
theorem turn_rfiA : ∀ a : A_rfiA, (endT 3 orc_rfiA (evalCode Try.prog (lk L_rdrop) Try.f23.ntmps 3 20 LT_rfi ((subAt c_rfi p_rfiA).getD .skip) true p_rfiA) (sh_rfiA.enc (e_rfiA a))).run = (T_rfiA a).run := by
  rintro ⟨i, off, size, n, b, c, q⟩
  kernel_rfl

theorem step_rfiA : ∀ a y, I_rfiA a → (G_rfiA a).run = some y → (T_rfiA a).run = some y := by
  rintro ⟨i, off, size, n, b, c, q⟩ y h0 h
  change n = 0 at h0
  subst h0
  rw [← h]
  simp only [T_rfiA, G_rfiA, wideF]
  cases (q == 0) <;> cases (q == 4) <;> cases (q == 8) <;> cases (q == 16) <;> cases (q == 12) <;> cases (q == 14) <;> rfl
theorem lok_rfi : LOk Try.prog (lk L_rdrop) Try.f23.ntmps 3 20 LT_rfi c_rfi := lok_view1 (lok_view1 (lok_view (noL_ok2 _ _ _ _ _ _ _) (by kernel_rfl) e_rfi (by rintro ⟨⟨⟨⟩, i, off, v, k, ⟨⟩⟩, ⟨⟨⟨⟩, ⟨⟩, ⟨⟩⟩, b, c, ⟨⟩⟩⟩; exact ⟨(i, off, v, k, b, c), rfl⟩) T_rfi turn_rfi I_rfi G_rfi (by rintro ⟨i, off, v, k, b, c⟩; rfl) μ_rfi step_rfi) (by kernel_rfl) e_rfiB (by rintro ⟨⟨⟨⟩, i, off, size, n, ⟨⟩⟩, ⟨⟨⟨⟩, ⟨⟩, ⟨⟩⟩, b, c, ⟨⟩⟩⟩; exact ⟨(i, off, size, n, b, c), rfl⟩) T_rfiB turn_rfiB I_rfiB G_rfiB (by rintro ⟨i, off, size, n, b, c⟩; rfl) step_rfiB) (by kernel_rfl) e_rfiA (by rintro ⟨⟨⟨⟩, i, off, size, n, q, ⟨⟩⟩, ⟨⟨⟨⟩, ⟨⟩, ⟨⟩⟩, b, c, ⟨⟩⟩⟩; exact ⟨(i, off, size, n, b, c, q), rfl⟩) T_rfiA turn_rfiA I_rfiA G_rfiA (by rintro ⟨i, off, size, n, b, c, q⟩; rfl) step_rfiA
def ea_rfi : Int × Int × Int × Rws × Ints → denAs [.c (.p 0 0), .c (.i .i64), .c (.i .i64), .c (.i .i64)] := fun ⟨i, off, size, b, c⟩ => ((), i, off, size, ())
def eo_rfi : Int × Int × Int × Rws × Ints → denObs [.lit [.h 1, .h 2], .row rowsT, .row intsT] := fun ⟨i, off, size, b, c⟩ => (((), (), ()), b, c, ())
noncomputable def E_rfi : Int × Int × Int × Rws × Ints → Tree (AV × List Ob) := fun ⟨i, off, size, b, c⟩ => 
Tree.ite (decide ((0 : Int) ≤ i)) (Tree.ite (!decide (i < (↑(List.length b) : Int))) (Tree.ret (AV.t [Part.one (Cell.w IntKind.u64 (BitVec.ofInt (64 : Nat) (0 : Int))), Part.one (Cell.v (Value.int IntKind.i64 (8 : Int)))], [Ob.lit [Cell.h (1 : Nat), Cell.h (2 : Nat)], Ob.row rowsT b, Ob.row intsT c])) (Tree.ite (decC ((0 : Int) = (0 : Int))) (Tree.ite (decC True) (Tree.ite (badF size (wideF off)) (Tree.ret (AV.t [Part.one (Cell.w IntKind.u64 (BitVec.ofInt (64 : Nat) (0 : Int))), Part.one (Cell.v (Value.int IntKind.i64 (12 : Int)))], [Ob.lit [Cell.h (1 : Nat), Cell.h (2 : Nat)], Ob.row rowsT b, Ob.row intsT c])) (Tree.ite (decC ((0 : Int) ≤ i ∧ i < (↑(List.length b) : Int) ∧ (0 : Int) ≤ off ∧ (-1 : Int) ≤ IntKind.i64.wrap (size - (1 : Int)) ∧ off + IntKind.i64.wrap (size - (1 : Int)) < (↑(List.length (List.getD b i.toNat ([], ())).fst) : Int) ∧ List.length (List.getD b i.toNat ([], ())).fst ≤ (20 : Nat))) (Tree.ret (AV.t [Part.one (Cell.w IntKind.u64 (up (List.getD b i.toNat ([], ())).fst off.toNat (IntKind.i64.wrap (size - (1 : Int)) + (1 : Int)).toNat (BitVec.ofInt (64 : Nat) (0 : Int)))), Part.one (Cell.v (Value.int IntKind.i64 (0 : Int)))], [Ob.lit [Cell.h (1 : Nat), Cell.h (2 : Nat)], Ob.row rowsT b, Ob.row intsT c])) Tree.fail)) Tree.fail) Tree.fail)) (Tree.ret (AV.t [Part.one (Cell.w IntKind.u64 (BitVec.ofInt (64 : Nat) (0 : Int))), Part.one (Cell.v (Value.int IntKind.i64 (8 : Int)))], [Ob.lit [Cell.h (1 : Nat), Cell.h (2 : Nat)], Ob.row rowsT b, Ob.row intsT c]))
noncomputable def F_rfi : denAs [.c (.p 0 0), .c (.i .i64), .c (.i .i64), .c (.i .i64)] → denObs [.lit [.h 1, .h 2], .row rowsT, .row intsT] → Tree (AV × List Ob) := fun x y => match x, y with
  | ((), i, off, size, ()), (((), (), ()), b, c, ()) => rfieldT i off size b c
theorem ev_rfi : ∀ a, (evalFnL Try.prog (lk L_rdrop) 20 LT_rfi Try.f23 c_rfi [] (encAs [.c (.p 0 0), .c (.i .i64), .c (.i .i64), .c (.i .i64)] (ea_rfi a)) (encOs [.lit [.h 1, .h 2], .row rowsT, .row intsT] (eo_rfi a))).run = (E_rfi a).run := by
  rintro ⟨i, off, size, b, c⟩
  kernel_rfl
theorem fe_rfi : ∀ a y, (F_rfi (ea_rfi a) (eo_rfi a)).run = some y → (E_rfi a).run = some y := by
  rintro ⟨i, off, size, b, c⟩ y h
  change (rfieldT i off size b c).run = some y at h
  rw [← h]
  simp only [E_rfi, rfieldT]
  by_cases h1 : 0 ≤ i
  case neg => rw [goFd h1, goT (by simp; omega)]; rfl
  by_cases h2 : i < b.length
  case neg => rw [goTd h1, goTn h2, goT (by simp; omega)]; rfl
  rw [goTd h1, goFn h2, goC trivial, goC trivial, badF_fits]
  have hr : ∀ t e : Tree (AV × List Ob), (Tree.ite (decide (i < 0) || decide ((b.length : Int) ≤ i)) t e).run = e.run := fun t e => goF (by simp; omega)
  simp only [rfieldT] at h
  rw [hr] at h ⊢
  cases hf : fits off size with
  | false => rw [hf] at h; rfl
  | true =>
    rw [hf] at h
    obtain ⟨hl, h⟩ := ckP_run ((goT rfl).symm.trans h)
    obtain ⟨g1, g2, g3, g4⟩ := fits_spec hf
    rw [Bool.not_true, goF rfl, goT rfl, wrap64 (n := size - 1) (by omega) (by omega), goC ⟨h1, h2, by omega, by omega, by omega, by omega⟩]
    refine Eq.trans ?_ (goC hl).symm
    rw [show (size - 1 + 1).toNat = size.toNat by omega, ← field_up _ off size g1 (by omega) (by omega) (by omega)]
    rfl
theorem ok_rfi : SummOk Kn Try.prog 23 (sumT [.own 2, .any, .any, .any] false [.c (.p 0 0), .c (.i .i64), .c (.i .i64), .c (.i .i64)] [.lit [.h 1, .h 2], .row rowsT, .row intsT] F_rfi) := sumT_view tok_rdrop Try.checked.mixed Try.func23 (by kernel_rfl) (by rfl) 20 [] ea_rfi eo_rfi
  (by rintro ⟨⟨⟩, i, off, size, ⟨⟩⟩ ⟨⟨⟨⟩, ⟨⟩, ⟨⟩⟩, b, c, ⟨⟩⟩; exact ⟨(i, off, size, b, c), rfl, rfl⟩) LT_rfi 3 (by rintro ⟨⟨⟨⟩, ⟨⟩, ⟨⟩⟩, b, c, ⟨⟩⟩; rfl) lok_rfi E_rfi ev_rfi fe_rfi
noncomputable def L_rfi : List (Nat × Summ) := (23, (sumT [.own 2, .any, .any, .any] false [.c (.p 0 0), .c (.i .i64), .c (.i .i64), .c (.i .i64)] [.lit [.h 1, .h 2], .row rowsT, .row intsT] F_rfi)) :: L_rdrop
theorem tok_rfi : TOk Kn Try.prog (lk L_rfi) := lk_cons ok_rfi tok_rdrop

def ea_racq : Int × Helds × Evs × Int × Int → denAs [.c (.p 0 0), .c (.i .i64), .c (.i .i64)] := fun ⟨x, m, e, n, w⟩ => ((), n, w, ())
def eo_racq : Int × Helds × Evs × Int × Int → denObs [.lit [.i .i64, .h 1, .h 2], .row h3T, .row evT] := fun ⟨x, m, e, n, w⟩ => ((x, (), (), ()), m, e, ())
noncomputable def E_racq : Int × Helds × Evs × Int × Int → Tree (AV × List Ob) := fun ⟨x, m, e, n, w⟩ => 
Tree.ite ((↑(List.length m) : Int) == (256 : Int)) (Tree.ret (AV.t [Part.one (Cell.v (Value.int IntKind.i64 (0 : Int))), Part.one (Cell.v (Value.bool false))], [Ob.lit [Cell.v (Value.int IntKind.i64 x), Cell.h (1 : Nat), Cell.h (2 : Nat)], Ob.row h3T m, Ob.row evT e])) (Tree.ite (bytesOk (List.length m + (1 : Nat)) (24 : Nat) && (List.length m + (1 : Nat)).ble (140737488355328 : Nat)) (Tree.ite (bytesOk (List.length e + (1 : Nat)) (24 : Nat) && (List.length e + (1 : Nat)).ble (140737488355328 : Nat)) (Tree.ret (AV.t [Part.one (Cell.v (Value.int IntKind.i64 (IntKind.i64.wrap (x + (1 : Int))))), Part.one (Cell.v (Value.bool true))], [Ob.lit [Cell.v (Value.int IntKind.i64 (IntKind.i64.wrap (x + (1 : Int)))), Cell.h (3 : Nat), Cell.h (4 : Nat)], Ob.dead, Ob.dead, Ob.row h3T (m ++ [(IntKind.i64.wrap (x + (1 : Int)), n, w, ())]), Ob.row evT (e ++ [(false, IntKind.i64.wrap (x + (1 : Int)), n, ())])])) Tree.fail) Tree.fail)
noncomputable def F_racq : denAs [.c (.p 0 0), .c (.i .i64), .c (.i .i64)] → denObs [.lit [.i .i64, .h 1, .h 2], .row h3T, .row evT] → Tree (AV × List Ob) := fun x y => match x, y with
  | ((), n, w, ()), ((x, (), (), ()), m, e, ()) => .ite ((m.length : Int) == 256) (.ret (.t [.one (.v (.int .i64 (0))), .one (.v (.bool false))], [obR x 1 2, .row h3T m, .row evT e])) (ckP (e.length ≤ 1000000 ∧ m.length ≤ 1000000 ∧ 0 ≤ x ∧ x ≤ 1000000) (.ret (.t [.one (.v (.int .i64 (x + 1))), .one (.v (.bool true))], [obR (x + 1) 3 4, .dead, .dead, .row h3T (m ++ [(x + 1, n, w, ())]), .row evT (e ++ [(false, x + 1, n, ())])])))
theorem ev_racq : ∀ a, (evalFnL Try.prog (lk L_rfi) 20 noL Try.f24 (Try.f24.body.getD .skip) [] (encAs [.c (.p 0 0), .c (.i .i64), .c (.i .i64)] (ea_racq a)) (encOs [.lit [.i .i64, .h 1, .h 2], .row h3T, .row evT] (eo_racq a))).run = (E_racq a).run := by
  rintro ⟨x, m, e, n, w⟩
  kernel_rfl
theorem fe_racq : ∀ a y, (F_racq (ea_racq a) (eo_racq a)).run = some y → (E_racq a).run = some y := by
  rintro ⟨x, m, e, n, w⟩ y h
  simp only [E_racq]
  cases h0 : ((m.length : Int) == 256) with
  | true =>
    rw [goT rfl]
    exact (goT h0).symm.trans h
  | false =>
    obtain ⟨⟨h1, h2, h3, h4⟩, h5⟩ := ckP_run ((goF h0).symm.trans h)
    change e.length ≤ 1000000 at h1
    change m.length ≤ 1000000 at h2
    change 0 ≤ x at h3
    change x ≤ 1000000 at h4
    rw [goF rfl, wrap64 (by omega) (by omega)]
    exact (goTb ⟨by omega, by omega⟩).trans ((goTb ⟨by omega, by omega⟩).trans h5)
theorem ok_racq : SummOk Kn Try.prog 24 (sumT [.own 3, .any, .any] false [.c (.p 0 0), .c (.i .i64), .c (.i .i64)] [.lit [.i .i64, .h 1, .h 2], .row h3T, .row evT] F_racq) := sumT_view tok_rfi Try.checked.mixed Try.func24 (by kernel_rfl) (by rfl) 20 [] ea_racq eo_racq
  (by rintro ⟨⟨⟩, n, w, ⟨⟩⟩ ⟨⟨x, ⟨⟩, ⟨⟩, ⟨⟩⟩, m, e, ⟨⟩⟩; exact ⟨(x, m, e, n, w), rfl, rfl⟩) noL 3 (by rintro ⟨⟨x, ⟨⟩, ⟨⟩, ⟨⟩⟩, m, e, ⟨⟩⟩; rfl) (noL_ok _ _ _ _ _ _) E_racq ev_racq fe_racq
noncomputable def L_racq : List (Nat × Summ) := (24, (sumT [.own 3, .any, .any] false [.c (.p 0 0), .c (.i .i64), .c (.i .i64)] [.lit [.i .i64, .h 1, .h 2], .row h3T, .row evT] F_racq)) :: L_rfi
theorem tok_racq : TOk Kn Try.prog (lk L_racq) := lk_cons ok_racq tok_rfi

noncomputable abbrev c_rrel : Code := Try.f25.body.getD .skip
def p_rrel : List Nat := [0, 1, 0, 1]
def sh_rrel : Shape := ⟨[(0, .c (.p 0 0)), (1, .c (.i .i64)), (2, .c (.i .i64)), (8, .c (.i .i64))], [.lit [.i .i64, .h 1, .h 2], .row h3T, .row evT]⟩
@[reducible] def A_rrel : Type := Int × Helds × Evs × Int × Int × Int
def e_rrel : A_rrel → sh_rrel.den := fun ⟨x, m, e, id, hp, i⟩ => (((), id, hp, i, ()), ((x, (), (), ()), m, e, ()))
def v_rrel : sh_rrel.den → A_rrel := fun d => match d with
  | (((), id, hp, i, ()), ((x, (), (), ()), m, e, ())) => (x, m, e, id, hp, i)
def I_rrel : A_rrel → Prop := fun ⟨x, m, e, id, hp, i⟩ => 0 ≤ i ∧ m.length ≤ 1000000 ∧ e.length ≤ 1000000
noncomputable def G_rrel : A_rrel → Tree (Ex × St) := fun ⟨x, m, e, id, hp, i⟩ => rrelG x m e id hp i
noncomputable def orc_rrel : Orc := ⟨sh_rrel, [], [6, 7], [], fun d => ckP (I_rrel (v_rrel d)) (G_rrel (v_rrel d))⟩
noncomputable def LT_rrel : LT := oneL p_rrel orc_rrel (noL)
noncomputable def T_rrel : Int × Helds × Evs × Int × Int × Int → Tree (A_rrel ⊕ (Ex × St)) := fun ⟨x, m, e, id, hp, i⟩ => 
Tree.ite (decide (i < (↑(List.length m) : Int))) (Tree.ite (decide ((0 : Int) ≤ i) && decide (i < (↑(List.length m) : Int))) (Tree.ite ((List.getD m i.toNat ((0 : Int), (0 : Int), (0 : Int), ())).fst == id) (Tree.ite (decide ((0 : Int) ≤ i) && decide (i < (↑(List.length m) : Int))) (Tree.ite (decide ((0 : Int) ≤ i) && decide (i ≤ (↑(List.length m) : Int))) (Tree.ite (decide ((0 : Int) ≤ i) && decide (i ≤ (↑i.toNat : Int))) (Tree.ite (decide ((0 : Int) ≤ IntKind.i64.wrap (i + (1 : Int))) && decide (IntKind.i64.wrap (i + (1 : Int)) ≤ (↑(List.length m) : Int))) (Tree.ite (((0 : Nat) + (i.toNat - (0 : Nat))).ble (List.length m) && (true && (((0 : Nat) + (i.toNat - (0 : Nat))).ble i.toNat && i.toNat.ble (List.length m)))) (Tree.ite (((IntKind.i64.wrap (i + (1 : Int))).toNat + (List.length m - (IntKind.i64.wrap (i + (1 : Int))).toNat)).ble (List.length m) && (true && ((List.length m - (IntKind.i64.wrap (i + (1 : Int))).toNat).beq (0 : Nat) || true))) (Tree.ite (bytesOk ((List.take ((0 : Nat) + (i.toNat - (0 : Nat)) - (0 : Nat)) (List.drop (0 : Nat) m)).length + (List.take ((IntKind.i64.wrap (i + (1 : Int))).toNat + (List.length m - (IntKind.i64.wrap (i + (1 : Int))).toNat) - (IntKind.i64.wrap (i + (1 : Int))).toNat) (List.drop (IntKind.i64.wrap (i + (1 : Int))).toNat m)).length) (24 : Nat) && ((List.take ((0 : Nat) + (i.toNat - (0 : Nat)) - (0 : Nat)) (List.drop (0 : Nat) m)).length + (List.take ((IntKind.i64.wrap (i + (1 : Int))).toNat + (List.length m - (IntKind.i64.wrap (i + (1 : Int))).toNat) - (IntKind.i64.wrap (i + (1 : Int))).toNat) (List.drop (IntKind.i64.wrap (i + (1 : Int))).toNat m)).length).ble (140737488355328 : Nat)) (Tree.ite (bytesOk (List.length e + (1 : Nat)) (24 : Nat) && (List.length e + (1 : Nat)).ble (140737488355328 : Nat)) (Tree.ret (Sum.inr (Ex.ret, { env := [((6 : Nat), AV.p (Part.one (Cell.v (Value.int IntKind.i64 (List.getD m i.toNat ((0 : Int), (0 : Int), (0 : Int), ())).snd.snd.fst)))), ((7 : Nat), AV.p (Part.one (Cell.v (Value.int IntKind.i64 (0 : Int)))))], hp := [((0 : Nat), Ob.lit [Cell.v (Value.int IntKind.i64 x), Cell.h (3 : Nat), Cell.h (4 : Nat)]), ((1 : Nat), Ob.dead), ((2 : Nat), Ob.dead), ((3 : Nat), Ob.row h3T (List.take ((0 : Nat) + (i.toNat - (0 : Nat)) - (0 : Nat)) (List.drop (0 : Nat) m) ++ List.take ((IntKind.i64.wrap (i + (1 : Int))).toNat + (List.length m - (IntKind.i64.wrap (i + (1 : Int))).toNat) - (IntKind.i64.wrap (i + (1 : Int))).toNat) (List.drop (IntKind.i64.wrap (i + (1 : Int))).toNat m))), ((4 : Nat), Ob.row evT (e ++ [(true, id, hp, ())]))], nx := (5 : Nat) }))) Tree.fail) Tree.fail) Tree.fail) Tree.fail) Tree.fail) Tree.fail) Tree.fail) Tree.fail) (Tree.ret (Sum.inl (x, m, e, id, hp, IntKind.i64.wrap (i + (1 : Int)))))) Tree.fail) (Tree.ret (Sum.inr (Ex.exit (0 : Nat), { env := [], hp := [((0 : Nat), Ob.lit [Cell.v (Value.int IntKind.i64 x), Cell.h (1 : Nat), Cell.h (2 : Nat)]), ((1 : Nat), Ob.row h3T m), ((2 : Nat), Ob.row evT e)], nx := (3 : Nat) })))
theorem turn_rrel : ∀ a : A_rrel, (turnT 3 orc_rrel (evalCode Try.prog (lk L_racq) Try.f25.ntmps 3 20 LT_rrel (bodyAt c_rrel p_rrel) false (0 :: p_rrel)) (sh_rrel.enc (e_rrel a))).run = ((T_rrel a).bind fun s => .ret (turnV sh_rrel e_rrel s)).run := by
  rintro ⟨x, m, e, id, hp, i⟩
  kernel_rfl

def μ_rrel : A_rrel → Nat := fun ⟨x, m, e, id, hp, i⟩ => m.length - i.toNat
theorem step_rrel : ∀ a : A_rrel, I_rrel a → (∃ a', (T_rrel a).run = some (.inl a') ∧ I_rrel a' ∧ μ_rrel a' < μ_rrel a ∧ (G_rrel a').run = (G_rrel a).run) ∨ (∃ y, (T_rrel a).run = some (.inr y) ∧ (G_rrel a).run = some y ∧ ((∃ id, y.1 = .exit id) ∨ y.1 = .ret)) := by
  rintro ⟨x, m, e, id, hp, i⟩ ⟨h0, h1, h2⟩
  simp only [T_rrel, G_rrel]
  by_cases hi : i < m.length
  · have hin : i.toNat < m.length := by omega
    have hsub : (m.take (0 + (i.toNat - 0) - 0)) = m.take i.toNat := by congr 1; omega
    rw [goTd hi, goTa ⟨h0, hi⟩, wrap64 (n := i + 1) (by omega) (by omega)]
    by_cases hid : (m.getD i.toNat (0, 0, 0, ())).1 = id
    · right
      obtain ⟨g1, g2, g3⟩ := h_here hin hid
      have e1 : List.take ((i + 1).toNat + (m.length - (i + 1).toNat) - (i + 1).toNat) (List.drop (i + 1).toNat m) = m.drop (i + 1).toNat := List.take_of_length_le (by simp)
      rw [goT (by rw [hid]; exact beq_self_eq_true _), goTa ⟨h0, hi⟩, goTa ⟨h0, by omega⟩, goTa ⟨h0, by omega⟩, goTa ⟨by omega, by omega⟩, goT (by simp only [ble_dec]; simp; omega), goT (by simp only [ble_dec]; simp; omega), e1, List.drop_zero, hsub,
        goTb ⟨by simp; omega, by simp; omega⟩, goTb ⟨by omega, by omega⟩]
      refine ⟨_, rfl, ?_, .inr rfl⟩
      rw [rrelG, goF g1, g2, g3, toNat_succ h0]; rfl
    · left
      obtain ⟨g1, g2, g3⟩ := h_step h0 hin hid
      rw [goF (beq_false_of_ne hid)]
      refine ⟨_, rfl, ⟨by omega, h1, h2⟩, by simp only [μ_rrel]; omega, ?_⟩
      simp only [rrelG, g1, g2, g3]
  · right
    rw [goFd hi]
    refine ⟨_, rfl, ?_, .inl ⟨0, rfl⟩⟩
    rw [rrelG, goT (h_end (by omega))]; rfl
theorem lok_rrel : LOk Try.prog (lk L_racq) Try.f25.ntmps 3 20 LT_rrel c_rrel := lok_view (noL_ok2 _ _ _ _ _ _ _) (by kernel_rfl) e_rrel (by rintro ⟨⟨⟨⟩, id, hp, i, ⟨⟩⟩, ⟨⟨x, ⟨⟩, ⟨⟩, ⟨⟩⟩, m, e, ⟨⟩⟩⟩; exact ⟨(x, m, e, id, hp, i), rfl⟩) T_rrel turn_rrel I_rrel G_rrel (by rintro ⟨x, m, e, id, hp, i⟩; rfl) μ_rrel step_rrel
def ea_rrel : Int × Helds × Evs × Int × Int → denAs [.c (.p 0 0), .c (.i .i64), .c (.i .i64)] := fun ⟨x, m, e, id, hp⟩ => ((), id, hp, ())
def eo_rrel : Int × Helds × Evs × Int × Int → denObs [.lit [.i .i64, .h 1, .h 2], .row h3T, .row evT] := fun ⟨x, m, e, id, hp⟩ => ((x, (), (), ()), m, e, ())
noncomputable def E_rrel : Int × Helds × Evs × Int × Int → Tree (AV × List Ob) := fun ⟨x, m, e, id, hp⟩ => 
Tree.ite (decC ((0 : Int) ≤ (0 : Int) ∧ List.length m ≤ (1000000 : Nat) ∧ List.length e ≤ (1000000 : Nat))) (Tree.ite (noH id (List.drop (0 : Nat) m)) (Tree.ret (AV.t [Part.one (Cell.v (Value.int IntKind.i64 (0 : Int))), Part.one (Cell.v (Value.int IntKind.i64 (110 : Int)))], [Ob.lit [Cell.v (Value.int IntKind.i64 x), Cell.h (1 : Nat), Cell.h (2 : Nat)], Ob.row h3T m, Ob.row evT e])) (Tree.ret (AV.t [Part.one (Cell.v (Value.int IntKind.i64 (valH id (List.drop (0 : Nat) m)).snd.fst)), Part.one (Cell.v (Value.int IntKind.i64 (0 : Int)))], [Ob.lit [Cell.v (Value.int IntKind.i64 x), Cell.h (3 : Nat), Cell.h (4 : Nat)], Ob.dead, Ob.dead, Ob.row h3T (List.take (0 : Nat) m ++ delH id (List.drop (0 : Nat) m)), Ob.row evT (e ++ [(true, id, hp, ())])]))) Tree.fail
noncomputable def F_rrel : denAs [.c (.p 0 0), .c (.i .i64), .c (.i .i64)] → denObs [.lit [.i .i64, .h 1, .h 2], .row h3T, .row evT] → Tree (AV × List Ob) := fun x y => match x, y with
  | ((), id, hp, ()), ((x, (), (), ()), m, e, ()) => ckP (m.length ≤ 1000000 ∧ e.length ≤ 1000000) (.ite (noH id m) (.ret (.t [.one (.v (.int .i64 (0))), .one (.v (.int .i64 (110)))], [obR x 1 2, .row h3T m, .row evT e])) (.ret (.t [.one (.v (.int .i64 ((valH id m).2.1))), .one (.v (.int .i64 (0)))], [obR x 3 4, .dead, .dead, .row h3T (delH id m), .row evT (e ++ [(true, id, hp, ())])])))
theorem ev_rrel : ∀ a, (evalFnL Try.prog (lk L_racq) 20 LT_rrel Try.f25 c_rrel [] (encAs [.c (.p 0 0), .c (.i .i64), .c (.i .i64)] (ea_rrel a)) (encOs [.lit [.i .i64, .h 1, .h 2], .row h3T, .row evT] (eo_rrel a))).run = (E_rrel a).run := by
  rintro ⟨x, m, e, id, hp⟩
  kernel_rfl
theorem fe_rrel : ∀ a y, (F_rrel (ea_rrel a) (eo_rrel a)).run = some y → (E_rrel a).run = some y := by
  rintro ⟨x, m, e, id, hp⟩ y h
  obtain ⟨⟨h1, h2⟩, h⟩ := ckP_run h
  change m.length ≤ 1000000 at h1
  change e.length ≤ 1000000 at h2
  rw [← h]
  simp only [E_rrel]
  exact (goC ⟨Int.le_refl 0, h1, h2⟩)
theorem ok_rrel : SummOk Kn Try.prog 25 (sumT [.own 3, .any, .any] false [.c (.p 0 0), .c (.i .i64), .c (.i .i64)] [.lit [.i .i64, .h 1, .h 2], .row h3T, .row evT] F_rrel) := sumT_view tok_racq Try.checked.mixed Try.func25 (by kernel_rfl) (by rfl) 20 [] ea_rrel eo_rrel
  (by rintro ⟨⟨⟩, id, hp, ⟨⟩⟩ ⟨⟨x, ⟨⟩, ⟨⟩, ⟨⟩⟩, m, e, ⟨⟩⟩; exact ⟨(x, m, e, id, hp), rfl, rfl⟩) LT_rrel 3 (by rintro ⟨⟨x, ⟨⟩, ⟨⟩, ⟨⟩⟩, m, e, ⟨⟩⟩; rfl) lok_rrel E_rrel ev_rrel fe_rrel
noncomputable def L_rrel : List (Nat × Summ) := (25, (sumT [.own 3, .any, .any] false [.c (.p 0 0), .c (.i .i64), .c (.i .i64)] [.lit [.i .i64, .h 1, .h 2], .row h3T, .row evT] F_rrel)) :: L_racq
theorem tok_rrel : TOk Kn Try.prog (lk L_rrel) := lk_cons ok_rrel tok_racq

noncomputable abbrev c_rwhat : Code := Try.f27.body.getD .skip
def p_rwhat : List Nat := [0, 1, 0, 1]
def sh_rwhat : Shape := ⟨[(0, .c (.p 0 0)), (1, .c (.i .i64)), (7, .c (.i .i64))], [.lit [.i .i64, .h 1, .h 2], .row h3T, .row evT]⟩
@[reducible] def A_rwhat : Type := Int × Helds × Evs × Int × Int
def e_rwhat : A_rwhat → sh_rwhat.den := fun ⟨x, m, e, id, i⟩ => (((), id, i, ()), ((x, (), (), ()), m, e, ()))
def v_rwhat : sh_rwhat.den → A_rwhat := fun d => match d with
  | (((), id, i, ()), ((x, (), (), ()), m, e, ())) => (x, m, e, id, i)
def I_rwhat : A_rwhat → Prop := fun ⟨x, m, e, id, i⟩ => 0 ≤ i ∧ m.length ≤ 1000000
noncomputable def G_rwhat : A_rwhat → Tree (Ex × St) := fun ⟨x, m, e, id, i⟩ => rwhatG x m e id i
noncomputable def orc_rwhat : Orc := ⟨sh_rwhat, [], [4, 5, 6], [], fun d => ckP (I_rwhat (v_rwhat d)) (G_rwhat (v_rwhat d))⟩
noncomputable def LT_rwhat : LT := oneL p_rwhat orc_rwhat (noL)
noncomputable def T_rwhat : Int × Helds × Evs × Int × Int → Tree (A_rwhat ⊕ (Ex × St)) := fun ⟨x, m, e, id, i⟩ => 
Tree.ite (decide (i < (↑(List.length m) : Int))) (Tree.ite (decide ((0 : Int) ≤ i) && decide (i < (↑(List.length m) : Int))) (Tree.ite ((List.getD m i.toNat ((0 : Int), (0 : Int), (0 : Int), ())).fst == id) (Tree.ite (decide ((0 : Int) ≤ i) && decide (i < (↑(List.length m) : Int))) (Tree.ite (decide ((0 : Int) ≤ i) && decide (i < (↑(List.length m) : Int))) (Tree.ret (Sum.inr (Ex.ret, { env := [((4 : Nat), AV.p (Part.one (Cell.v (Value.int IntKind.i64 (List.getD m i.toNat ((0 : Int), (0 : Int), (0 : Int), ())).snd.fst)))), ((5 : Nat), AV.p (Part.one (Cell.v (Value.int IntKind.i64 (List.getD m i.toNat ((0 : Int), (0 : Int), (0 : Int), ())).snd.snd.fst)))), ((6 : Nat), AV.p (Part.one (Cell.v (Value.bool true))))], hp := [((0 : Nat), Ob.lit [Cell.v (Value.int IntKind.i64 x), Cell.h (1 : Nat), Cell.h (2 : Nat)]), ((1 : Nat), Ob.row h3T m), ((2 : Nat), Ob.row evT e)], nx := (3 : Nat) }))) Tree.fail) Tree.fail) (Tree.ret (Sum.inl (x, m, e, id, IntKind.i64.wrap (i + (1 : Int)))))) Tree.fail) (Tree.ret (Sum.inr (Ex.exit (0 : Nat), { env := [], hp := [((0 : Nat), Ob.lit [Cell.v (Value.int IntKind.i64 x), Cell.h (1 : Nat), Cell.h (2 : Nat)]), ((1 : Nat), Ob.row h3T m), ((2 : Nat), Ob.row evT e)], nx := (3 : Nat) })))
theorem turn_rwhat : ∀ a : A_rwhat, (turnT 3 orc_rwhat (evalCode Try.prog (lk L_rrel) Try.f27.ntmps 3 20 LT_rwhat (bodyAt c_rwhat p_rwhat) false (0 :: p_rwhat)) (sh_rwhat.enc (e_rwhat a))).run = ((T_rwhat a).bind fun s => .ret (turnV sh_rwhat e_rwhat s)).run := by
  rintro ⟨x, m, e, id, i⟩
  kernel_rfl

def μ_rwhat : A_rwhat → Nat := fun ⟨x, m, e, id, i⟩ => m.length - i.toNat
theorem step_rwhat : ∀ a : A_rwhat, I_rwhat a → (∃ a', (T_rwhat a).run = some (.inl a') ∧ I_rwhat a' ∧ μ_rwhat a' < μ_rwhat a ∧ (G_rwhat a').run = (G_rwhat a).run) ∨ (∃ y, (T_rwhat a).run = some (.inr y) ∧ (G_rwhat a).run = some y ∧ ((∃ id, y.1 = .exit id) ∨ y.1 = .ret)) := by
  rintro ⟨x, m, e, id, i⟩ ⟨h0, h1⟩
  simp only [T_rwhat, G_rwhat]
  by_cases hi : i < m.length
  · have hin : i.toNat < m.length := by omega
    rw [goTd hi, goTa ⟨h0, hi⟩, wrap64 (n := i + 1) (by omega) (by omega)]
    by_cases hid : (m.getD i.toNat (0, 0, 0, ())).1 = id
    · right
      obtain ⟨g1, g2, g3⟩ := h_here hin hid
      rw [goT (by rw [hid]; exact beq_self_eq_true _), goTa ⟨h0, hi⟩, goTa ⟨h0, hi⟩]
      refine ⟨_, rfl, ?_, .inr rfl⟩
      rw [rwhatG, goF g1, g2]; rfl
    · left
      obtain ⟨g1, g2, g3⟩ := h_step h0 hin hid
      rw [goF (beq_false_of_ne hid)]
      refine ⟨_, rfl, ⟨by omega, h1⟩, by simp only [μ_rwhat]; omega, ?_⟩
      simp only [rwhatG, g1, g2]
  · right
    rw [goFd hi]
    refine ⟨_, rfl, ?_, .inl ⟨0, rfl⟩⟩
    rw [rwhatG, goT (h_end (by omega))]; rfl
theorem lok_rwhat : LOk Try.prog (lk L_rrel) Try.f27.ntmps 3 20 LT_rwhat c_rwhat := lok_view (noL_ok2 _ _ _ _ _ _ _) (by kernel_rfl) e_rwhat (by rintro ⟨⟨⟨⟩, id, i, ⟨⟩⟩, ⟨⟨x, ⟨⟩, ⟨⟩, ⟨⟩⟩, m, e, ⟨⟩⟩⟩; exact ⟨(x, m, e, id, i), rfl⟩) T_rwhat turn_rwhat I_rwhat G_rwhat (by rintro ⟨x, m, e, id, i⟩; rfl) μ_rwhat step_rwhat
def ea_rwhat : Int × Helds × Evs × Int → denAs [.c (.p 0 0), .c (.i .i64)] := fun ⟨x, m, e, id⟩ => ((), id, ())
def eo_rwhat : Int × Helds × Evs × Int → denObs [.lit [.i .i64, .h 1, .h 2], .row h3T, .row evT] := fun ⟨x, m, e, id⟩ => ((x, (), (), ()), m, e, ())
noncomputable def E_rwhat : Int × Helds × Evs × Int → Tree (AV × List Ob) := fun ⟨x, m, e, id⟩ => 
Tree.ite (decC ((0 : Int) ≤ (0 : Int) ∧ List.length m ≤ (1000000 : Nat))) (Tree.ite (noH id (List.drop (0 : Nat) m)) (Tree.ret (AV.t [Part.one (Cell.v (Value.int IntKind.i64 (0 : Int))), Part.one (Cell.v (Value.int IntKind.i64 (0 : Int))), Part.one (Cell.v (Value.bool false))], [Ob.lit [Cell.v (Value.int IntKind.i64 x), Cell.h (1 : Nat), Cell.h (2 : Nat)], Ob.row h3T m, Ob.row evT e])) (Tree.ret (AV.t [Part.one (Cell.v (Value.int IntKind.i64 (valH id (List.drop (0 : Nat) m)).fst)), Part.one (Cell.v (Value.int IntKind.i64 (valH id (List.drop (0 : Nat) m)).snd.fst)), Part.one (Cell.v (Value.bool true))], [Ob.lit [Cell.v (Value.int IntKind.i64 x), Cell.h (1 : Nat), Cell.h (2 : Nat)], Ob.row h3T m, Ob.row evT e]))) Tree.fail
noncomputable def F_rwhat : denAs [.c (.p 0 0), .c (.i .i64)] → denObs [.lit [.i .i64, .h 1, .h 2], .row h3T, .row evT] → Tree (AV × List Ob) := fun x y => match x, y with
  | ((), id, ()), ((x, (), (), ()), m, e, ()) => ckP (m.length ≤ 1000000) (.ret (.t [.one (.v (.int .i64 ((valH id m).1))), .one (.v (.int .i64 ((valH id m).2.1))), .one (.v (.bool (findH id m).isSome))], [obR x 1 2, .row h3T m, .row evT e]))
theorem ev_rwhat : ∀ a, (evalFnL Try.prog (lk L_rrel) 20 LT_rwhat Try.f27 c_rwhat [] (encAs [.c (.p 0 0), .c (.i .i64)] (ea_rwhat a)) (encOs [.lit [.i .i64, .h 1, .h 2], .row h3T, .row evT] (eo_rwhat a))).run = (E_rwhat a).run := by
  rintro ⟨x, m, e, id⟩
  kernel_rfl
theorem fe_rwhat : ∀ a y, (F_rwhat (ea_rwhat a) (eo_rwhat a)).run = some y → (E_rwhat a).run = some y := by
  rintro ⟨x, m, e, id⟩ y h
  obtain ⟨h1, h⟩ := ckP_run h
  change m.length ≤ 1000000 at h1
  rw [← h]
  simp only [E_rwhat]
  refine (goC ⟨Int.le_refl 0, h1⟩).trans ?_
  rw [List.drop_zero]
  change _ = some (AV.t [.one (.v (.int .i64 (valH id m).1)), .one (.v (.int .i64 (valH id m).2.1)), .one (.v (.bool (findH id m).isSome))], [obR x 1 2, .row h3T m, .row evT e])
  cases hb : (findH id m).isSome with
  | true => rw [goF (by unfold noH; rw [hb]; rfl)]; rfl
  | false =>
    rw [goT (by unfold noH; rw [hb]; rfl)]
    have : valH id m = (0, 0, ()) := by
      unfold valH
      cases hf : findH id m with
      | none => rfl
      | some z => rw [hf] at hb; cases hb
    rw [this]; rfl
theorem ok_rwhat : SummOk Kn Try.prog 27 (sumT [.own 3, .any] false [.c (.p 0 0), .c (.i .i64)] [.lit [.i .i64, .h 1, .h 2], .row h3T, .row evT] F_rwhat) := sumT_view tok_rrel Try.checked.mixed Try.func27 (by kernel_rfl) (by rfl) 20 [] ea_rwhat eo_rwhat
  (by rintro ⟨⟨⟩, id, ⟨⟩⟩ ⟨⟨x, ⟨⟩, ⟨⟩, ⟨⟩⟩, m, e, ⟨⟩⟩; exact ⟨(x, m, e, id), rfl, rfl⟩) LT_rwhat 3 (by rintro ⟨⟨x, ⟨⟩, ⟨⟩, ⟨⟩⟩, m, e, ⟨⟩⟩; rfl) lok_rwhat E_rwhat ev_rwhat fe_rwhat
noncomputable def L_rwhat : List (Nat × Summ) := (27, (sumT [.own 3, .any] false [.c (.p 0 0), .c (.i .i64)] [.lit [.i .i64, .h 1, .h 2], .row h3T, .row evT] F_rwhat)) :: L_rrel
theorem tok_rwhat : TOk Kn Try.prog (lk L_rwhat) := lk_cons ok_rwhat tok_rrel

noncomputable abbrev c_rheld : Code := Try.f30.body.getD .skip
def p_rheld : List Nat := [0, 1, 0, 1, 1]
def sh_rheld : Shape := ⟨[(0, .c (.p 0 0)), (3, .c (.h 3)), (4, .c (.i .i64))], [.lit [.i .i64, .h 1, .h 2], .row h3T, .row evT, .row intsT]⟩
@[reducible] def A_rheld : Type := Int × Helds × Evs × Ints × Int
def e_rheld : A_rheld → sh_rheld.den := fun ⟨x, m, e, h, i⟩ => (((), (), i, ()), ((x, (), (), ()), m, e, h, ()))
def v_rheld : sh_rheld.den → A_rheld := fun d => match d with
  | (((), (), i, ()), ((x, (), (), ()), m, e, h, ())) => (x, m, e, h, i)
def I_rheld : A_rheld → Prop := fun ⟨x, m, e, h, i⟩ => 0 ≤ i ∧ h.length ≤ i.toNat ∧ i.toNat ≤ m.length ∧ m.length ≤ 1000000
noncomputable def G_rheld : A_rheld → Tree (Ex × St) := fun ⟨x, m, e, h, i⟩ => .ret (.exit 0, ⟨[(3, .p (.one (.h 3)))], [(0, obR x 1 2), (1, .row h3T m), (2, .row evT e), (3, .row intsT (h ++ ids (m.drop i.toNat)))], 4⟩)
noncomputable def orc_rheld : Orc := ⟨sh_rheld, [(3, intsT)], [3], [], fun d => ckP (I_rheld (v_rheld d)) (G_rheld (v_rheld d))⟩
noncomputable def LT_rheld : LT := oneL p_rheld orc_rheld (noL)
noncomputable def T_rheld : Int × Helds × Evs × Ints × Int → Tree (A_rheld ⊕ (Ex × St)) := fun ⟨x, m, e, h, i⟩ => 
Tree.ite (decide (i < (↑(List.length m) : Int))) (Tree.ite (decide ((0 : Int) ≤ i) && decide (i < (↑(List.length m) : Int))) (Tree.ite (bytesOk (List.length h + (1 : Nat)) (8 : Nat) && (List.length h + (1 : Nat)).ble (140737488355328 : Nat)) (Tree.ret (Sum.inl (x, m, e, h ++ [((List.getD m i.toNat ((0 : Int), (0 : Int), (0 : Int), ())).fst, ())], IntKind.i64.wrap (i + (1 : Int))))) Tree.fail) Tree.fail) (Tree.ret (Sum.inr (Ex.exit (0 : Nat), { env := [((3 : Nat), AV.p (Part.one (Cell.h (3 : Nat))))], hp := [((0 : Nat), Ob.lit [Cell.v (Value.int IntKind.i64 x), Cell.h (1 : Nat), Cell.h (2 : Nat)]), ((1 : Nat), Ob.row h3T m), ((2 : Nat), Ob.row evT e), ((3 : Nat), Ob.row intsT h)], nx := (4 : Nat) })))
theorem turn_rheld : ∀ a : A_rheld, (turnT 3 orc_rheld (evalCode Try.prog (lk L_rwhat) Try.f30.ntmps 3 20 LT_rheld (bodyAt c_rheld p_rheld) false (0 :: p_rheld)) (sh_rheld.enc (e_rheld a))).run = ((T_rheld a).bind fun s => .ret (turnV sh_rheld e_rheld s)).run := by
  rintro ⟨x, m, e, h, i⟩
  kernel_rfl

def μ_rheld : A_rheld → Nat := fun ⟨x, m, e, h, i⟩ => m.length - i.toNat
theorem step_rheld : ∀ a : A_rheld, I_rheld a → (∃ a', (T_rheld a).run = some (.inl a') ∧ I_rheld a' ∧ μ_rheld a' < μ_rheld a ∧ (G_rheld a').run = (G_rheld a).run) ∨ (∃ y, (T_rheld a).run = some (.inr y) ∧ (G_rheld a).run = some y ∧ ((∃ id, y.1 = .exit id) ∨ y.1 = .ret)) := by
  rintro ⟨x, m, e, h, i⟩ ⟨h0, h1, h2, h3⟩
  simp only [T_rheld, G_rheld]
  by_cases hi : i < m.length
  · left
    have hd : m.drop i.toNat = m.getD i.toNat (0, 0, 0, ()) :: m.drop (i + 1).toNat := by rw [toNat_succ h0]; exact drop_cons (by omega) _
    rw [goTd hi, goTa ⟨h0, hi⟩, goTb ⟨by omega, by omega⟩, wrap64 (n := i + 1) (by omega) (by omega)]
    refine ⟨_, rfl, ⟨by omega, by simp; omega, by omega, h3⟩, by simp only [μ_rheld]; omega, ?_⟩
    rw [hd]
    simp [ids]
  · right
    rw [goFd hi]
    refine ⟨_, rfl, ?_, .inl ⟨0, rfl⟩⟩
    rw [drop_end (by omega)]
    rw [show ids ([] : Helds) = [] from rfl, List.append_nil]; rfl
theorem lok_rheld : LOk Try.prog (lk L_rwhat) Try.f30.ntmps 3 20 LT_rheld c_rheld := lok_view (noL_ok2 _ _ _ _ _ _ _) (by kernel_rfl) e_rheld (by rintro ⟨⟨⟨⟩, ⟨⟩, i, ⟨⟩⟩, ⟨⟨x, ⟨⟩, ⟨⟩, ⟨⟩⟩, m, e, h, ⟨⟩⟩⟩; exact ⟨(x, m, e, h, i), rfl⟩) T_rheld turn_rheld I_rheld G_rheld (by rintro ⟨x, m, e, h, i⟩; rfl) μ_rheld step_rheld
def ea_rheld : Int × Helds × Evs → denAs [.c (.p 0 0)] := fun ⟨x, m, e⟩ => ((), ())
def eo_rheld : Int × Helds × Evs → denObs [.lit [.i .i64, .h 1, .h 2], .row h3T, .row evT] := fun ⟨x, m, e⟩ => ((x, (), (), ()), m, e, ())
noncomputable def E_rheld : Int × Helds × Evs → Tree (AV × List Ob) := fun ⟨x, m, e⟩ => 
Tree.ite (decC ((0 : Int) ≤ (0 : Int) ∧ (0 : Nat) ≤ (0 : Nat) ∧ (0 : Nat) ≤ List.length m ∧ List.length m ≤ (1000000 : Nat))) (Tree.ret (AV.p (Part.one (Cell.h (3 : Nat))), [Ob.lit [Cell.v (Value.int IntKind.i64 x), Cell.h (1 : Nat), Cell.h (2 : Nat)], Ob.row h3T m, Ob.row evT e, Ob.row intsT ([] ++ ids (List.drop (0 : Nat) m))])) Tree.fail
noncomputable def F_rheld : denAs [.c (.p 0 0)] → denObs [.lit [.i .i64, .h 1, .h 2], .row h3T, .row evT] → Tree (AV × List Ob) := fun x y => match x, y with
  | ((), ()), ((x, (), (), ()), m, e, ()) => ckP (m.length ≤ 1000000) (.ret (AV.c (.h 3), [obR x 1 2, .row h3T m, .row evT e, .row intsT (ids m)]))
theorem ev_rheld : ∀ a, (evalFnL Try.prog (lk L_rwhat) 20 LT_rheld Try.f30 c_rheld [] (encAs [.c (.p 0 0)] (ea_rheld a)) (encOs [.lit [.i .i64, .h 1, .h 2], .row h3T, .row evT] (eo_rheld a))).run = (E_rheld a).run := by
  rintro ⟨x, m, e⟩
  kernel_rfl
theorem fe_rheld : ∀ a y, (F_rheld (ea_rheld a) (eo_rheld a)).run = some y → (E_rheld a).run = some y := by
  rintro ⟨x, m, e⟩ y h
  obtain ⟨h1, h⟩ := ckP_run h
  change m.length ≤ 1000000 at h1
  rw [← h]
  simp only [E_rheld]
  exact (goC ⟨Int.le_refl 0, Nat.le_refl 0, Nat.zero_le _, h1⟩)
theorem ok_rheld : SummOk Kn Try.prog 30 (sumT [.own 3] false [.c (.p 0 0)] [.lit [.i .i64, .h 1, .h 2], .row h3T, .row evT] F_rheld) := sumT_view tok_rwhat Try.checked.mixed Try.func30 (by kernel_rfl) (by rfl) 20 [] ea_rheld eo_rheld
  (by rintro ⟨⟨⟩, ⟨⟩⟩ ⟨⟨x, ⟨⟩, ⟨⟩, ⟨⟩⟩, m, e, ⟨⟩⟩; exact ⟨(x, m, e), rfl, rfl⟩) LT_rheld 3 (by rintro ⟨⟨x, ⟨⟩, ⟨⟩, ⟨⟩⟩, m, e, ⟨⟩⟩; rfl) lok_rheld E_rheld ev_rheld fe_rheld
noncomputable def L_rheld : List (Nat × Summ) := (30, (sumT [.own 3] false [.c (.p 0 0)] [.lit [.i .i64, .h 1, .h 2], .row h3T, .row evT] F_rheld)) :: L_rwhat
theorem tok_rheld : TOk Kn Try.prog (lk L_rheld) := lk_cons ok_rheld tok_rwhat

def ea_revs : Int × Helds × Evs → denAs [.c (.p 0 0)] := fun ⟨x, m, e⟩ => ((), ())
def eo_revs : Int × Helds × Evs → denObs [.lit [.i .i64, .h 1, .h 2], .row h3T, .row evT] := fun ⟨x, m, e⟩ => ((x, (), (), ()), m, e, ())
noncomputable def E_revs : Int × Helds × Evs → Tree (AV × List Ob) := fun ⟨x, m, e⟩ => 
Tree.ite (bytesOk ((0 : Nat) + List.length e) (24 : Nat) && ((0 : Nat) + List.length e).ble (140737488355328 : Nat)) (Tree.ret (AV.p (Part.one (Cell.h (3 : Nat))), [Ob.lit [Cell.v (Value.int IntKind.i64 x), Cell.h (1 : Nat), Cell.h (2 : Nat)], Ob.row h3T m, Ob.row evT e, Ob.row (Tys.cons Ty.b (Tys.cons (Ty.i IntKind.i64) intsT)) ([] ++ e)])) Tree.fail
noncomputable def F_revs : denAs [.c (.p 0 0)] → denObs [.lit [.i .i64, .h 1, .h 2], .row h3T, .row evT] → Tree (AV × List Ob) := fun x y => match x, y with
  | ((), ()), ((x, (), (), ()), m, e, ()) => ckP (e.length ≤ 1000000) (.ret (AV.c (.h 3), [obR x 1 2, .row h3T m, .row evT e, .row evT e]))
theorem ev_revs : ∀ a, (evalFnL Try.prog (lk L_rheld) 20 noL Try.f32 (Try.f32.body.getD .skip) [] (encAs [.c (.p 0 0)] (ea_revs a)) (encOs [.lit [.i .i64, .h 1, .h 2], .row h3T, .row evT] (eo_revs a))).run = (E_revs a).run := by
  rintro ⟨x, m, e⟩
  kernel_rfl
theorem fe_revs : ∀ a y, (F_revs (ea_revs a) (eo_revs a)).run = some y → (E_revs a).run = some y := by
  rintro ⟨x, m, e⟩ y h
  obtain ⟨h1, h⟩ := ckP_run h
  change e.length ≤ 1000000 at h1
  rw [← h]
  simp only [E_revs]
  exact (goTb ⟨by omega, by omega⟩)
theorem ok_revs : SummOk Kn Try.prog 32 (sumT [.own 3] false [.c (.p 0 0)] [.lit [.i .i64, .h 1, .h 2], .row h3T, .row evT] F_revs) := sumT_view tok_rheld Try.checked.mixed Try.func32 (by kernel_rfl) (by rfl) 20 [] ea_revs eo_revs
  (by rintro ⟨⟨⟩, ⟨⟩⟩ ⟨⟨x, ⟨⟩, ⟨⟩, ⟨⟩⟩, m, e, ⟨⟩⟩; exact ⟨(x, m, e), rfl, rfl⟩) noL 3 (by rintro ⟨⟨x, ⟨⟩, ⟨⟩, ⟨⟩⟩, m, e, ⟨⟩⟩; rfl) (noL_ok _ _ _ _ _ _) E_revs ev_revs fe_revs
noncomputable def L_revs : List (Nat × Summ) := (32, (sumT [.own 3] false [.c (.p 0 0)] [.lit [.i .i64, .h 1, .h 2], .row h3T, .row evT] F_revs)) :: L_rheld
theorem tok_revs : TOk Kn Try.prog (lk L_revs) := lk_cons ok_revs tok_rheld

noncomputable abbrev c_evsq : Code := Try.f31.body.getD .skip
def p_evsq : List Nat := [0, 1, 0, 1, 1]
def sh_evsq : Shape := ⟨[(0, .c (.d evT)), (1, .c (.d evT)), (5, .c (.i .i64))], []⟩
@[reducible] def A_evsq : Type := Evs × Evs × Int
def e_evsq : A_evsq → sh_evsq.den := fun ⟨a, b, i⟩ => ((a, b, i, ()), ())
def v_evsq : sh_evsq.den → A_evsq := fun d => match d with
  | ((a, b, i, ()), ()) => (a, b, i)
def I_evsq : A_evsq → Prop := fun ⟨a, b, i⟩ => 0 ≤ i ∧ a = b ∧ a.length ≤ 1000000
noncomputable def G_evsq : A_evsq → Tree (Ex × St) := fun ⟨a, b, i⟩ => .ret (.exit 0, ⟨[], [], 0⟩)
noncomputable def orc_evsq : Orc := ⟨sh_evsq, [], [4], [], fun d => ckP (I_evsq (v_evsq d)) (G_evsq (v_evsq d))⟩
noncomputable def LT_evsq : LT := oneL p_evsq orc_evsq (noL)
noncomputable def T_evsq : Evs × Evs × Int → Tree (A_evsq ⊕ (Ex × St)) := fun ⟨a, b, i⟩ => 
Tree.ite (decide (i < (↑(List.length a) : Int))) (Tree.ite (decide ((0 : Int) ≤ i) && decide (i < (↑(List.length a) : Int))) (Tree.ite (decide ((0 : Int) ≤ i) && decide (i < (↑(List.length b) : Int))) (Tree.ite (!((List.getD a i.toNat (false, (0 : Int), (0 : Int), ())).fst == (List.getD b i.toNat (false, (0 : Int), (0 : Int), ())).fst && ((List.getD a i.toNat (false, (0 : Int), (0 : Int), ())).snd.fst == (List.getD b i.toNat (false, (0 : Int), (0 : Int), ())).snd.fst && ((List.getD a i.toNat (false, (0 : Int), (0 : Int), ())).snd.snd.fst == (List.getD b i.toNat (false, (0 : Int), (0 : Int), ())).snd.snd.fst && true)))) (Tree.ret (Sum.inr (Ex.ret, { env := [((4 : Nat), AV.p (Part.one (Cell.v (Value.bool false))))], hp := [], nx := (0 : Nat) }))) (Tree.ret (Sum.inl (a, b, IntKind.i64.wrap (i + (1 : Int)))))) Tree.fail) Tree.fail) (Tree.ret (Sum.inr (Ex.exit (0 : Nat), { env := [], hp := [], nx := (0 : Nat) })))
theorem turn_evsq : ∀ a : A_evsq, (turnT 0 orc_evsq (evalCode Try.prog (lk L_revs) Try.f31.ntmps 0 20 LT_evsq (bodyAt c_evsq p_evsq) false (0 :: p_evsq)) (sh_evsq.enc (e_evsq a))).run = ((T_evsq a).bind fun s => .ret (turnV sh_evsq e_evsq s)).run := by
  rintro ⟨a, b, i⟩
  kernel_rfl

def μ_evsq : A_evsq → Nat := fun ⟨a, b, i⟩ => a.length - i.toNat
theorem step_evsq : ∀ a : A_evsq, I_evsq a → (∃ a', (T_evsq a).run = some (.inl a') ∧ I_evsq a' ∧ μ_evsq a' < μ_evsq a ∧ (G_evsq a').run = (G_evsq a).run) ∨ (∃ y, (T_evsq a).run = some (.inr y) ∧ (G_evsq a).run = some y ∧ ((∃ id, y.1 = .exit id) ∨ y.1 = .ret)) := by
  rintro ⟨a, b, i⟩ ⟨h0, rfl, h1⟩
  simp only [T_evsq, G_evsq]
  by_cases hi : i < a.length
  · left
    rw [goTd hi, goTa ⟨h0, hi⟩, goTa ⟨h0, hi⟩, goF (by simp), wrap64 (n := i + 1) (by omega) (by omega)]
    exact ⟨_, rfl, ⟨by omega, by trivial, h1⟩, by simp only [μ_evsq]; omega, by trivial⟩
  · right
    rw [goFd hi]
    exact ⟨_, rfl, by trivial, .inl ⟨0, rfl⟩⟩
theorem lok_evsq : LOk Try.prog (lk L_revs) Try.f31.ntmps 0 20 LT_evsq c_evsq := lok_view (noL_ok2 _ _ _ _ _ _ _) (by kernel_rfl) e_evsq (by rintro ⟨⟨a, b, i, ⟨⟩⟩, ⟨⟩⟩; exact ⟨(a, b, i), rfl⟩) T_evsq turn_evsq I_evsq G_evsq (by rintro ⟨a, b, i⟩; rfl) μ_evsq step_evsq
def ea_evsq : Evs × Evs → denAs [.c (.d evT), .c (.d evT)] := fun ⟨a, b⟩ => (a, b, ())
def eo_evsq : Evs × Evs → denObs [] := fun ⟨a, b⟩ => ()
noncomputable def E_evsq : Evs × Evs → Tree (AV × List Ob) := fun ⟨a, b⟩ => 
Tree.ite ((↑(List.length a) : Int) != (↑(List.length b) : Int)) (Tree.ret (AV.p (Part.one (Cell.v (Value.bool false))), [])) (Tree.ite (decC ((0 : Int) ≤ (0 : Int) ∧ a = b ∧ List.length a ≤ (1000000 : Nat))) (Tree.ret (AV.p (Part.one (Cell.v (Value.bool true))), [])) Tree.fail)
noncomputable def F_evsq : denAs [.c (.d evT), .c (.d evT)] → denObs [] → Tree (AV × List Ob) := fun x y => match x, y with
  | (a, b, ()), () => ckP (a = b ∧ a.length ≤ 1000000) (.ret (AV.b true, []))
theorem ev_evsq : ∀ a, (evalFnL Try.prog (lk L_revs) 20 LT_evsq Try.f31 c_evsq [] (encAs [.c (.d evT), .c (.d evT)] (ea_evsq a)) (encOs [] (eo_evsq a))).run = (E_evsq a).run := by
  rintro ⟨a, b⟩
  kernel_rfl
theorem fe_evsq : ∀ a y, (F_evsq (ea_evsq a) (eo_evsq a)).run = some y → (E_evsq a).run = some y := by
  rintro ⟨a, b⟩ y h
  obtain ⟨⟨h0, h1⟩, hy⟩ := ckP_run h
  change a = b at h0
  subst h0
  simp only [E_evsq]
  rw [goFne rfl]
  have hc : (0 : Int) ≤ 0 ∧ True ∧ a.length ≤ 1000000 := ⟨Int.le_refl 0, trivial, h1⟩
  exact (goC hc).trans hy
theorem ok_evsq : SummOk Kn Try.prog 31 (sumT [.dp evT, .dp evT] false [.c (.d evT), .c (.d evT)] [] F_evsq) := sumT_view tok_revs Try.checked.mixed Try.func31 (by kernel_rfl) (by rfl) 20 [] ea_evsq eo_evsq
  (by rintro ⟨a, b, ⟨⟩⟩ ⟨⟩; exact ⟨(a, b), rfl, rfl⟩) LT_evsq 0 (by rintro ⟨⟩; rfl) lok_evsq E_evsq ev_evsq fe_evsq
noncomputable def L_evsq : List (Nat × Summ) := (31, (sumT [.dp evT, .dp evT] false [.c (.d evT), .c (.d evT)] [] F_evsq)) :: L_revs
theorem tok_evsq : TOk Kn Try.prog (lk L_evsq) := lk_cons ok_evsq tok_revs

end Go.Proofs.Ytebimchjglckoaa.ref
