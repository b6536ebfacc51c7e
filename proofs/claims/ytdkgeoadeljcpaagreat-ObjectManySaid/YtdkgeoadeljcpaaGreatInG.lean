/-
  The contracts of what lays slots as bytes (written by our own gen_ing.py).
-/
import Derived.Test.YtdkgeoadeljcpaaGreatInF
import Derived.Test.YtdkgeoadeljcpaaGreatInV
namespace Go.Proofs.YtdkgeoadeljcpaaGreat
open Go Go.Sy Go.Sz Go.In Go.Proofs.YtdkgeoadeljcpaaGreat
set_option linter.unusedVariables false
set_option linter.unusedSimpArgs false
set_option linter.constructorNameAsVariable false
set_option maxRecDepth 100000

theorem ok_little : SummOk Kn Tryz.prog 77 (sumE [.any, .any, .any] false Tryz.prog (lk L_rchk) 20 Tryz.f77 (Tryz.f77.body.getD .skip) []) := sumE_ok tok_rchk Tryz.checked.mixed Tryz.func77 (by kernel_rfl) (by rfl) 20 []
noncomputable def L_little : List (Nat × Summ) := (77, (sumE [.any, .any, .any] false Tryz.prog (lk L_rchk) 20 Tryz.f77 (Tryz.f77.body.getD .skip) [])) :: L_rchk
theorem tok_little : TOk Kn Tryz.prog (lk L_little) := lk_cons ok_little tok_rchk

noncomputable abbrev c_unl : Code := Tryz.f112.body.getD .skip
def p_unl : List Nat := [0, 1, 0, 1, 1]
def sh_unl : Shape := ⟨[(3, .c (.w .u64)), (6, .c (.d bytesT)), (7, .c (.i .i64)), (8, .c (.i .i64))], []⟩
@[reducible] def A_unl : Type := Bys × (BitVec 64) × Int × Int
def e_unl : A_unl → sh_unl.den := fun ⟨b, x, n, i⟩ => ((x, b, n, i, ()), ())
def v_unl : sh_unl.den → A_unl := fun d => match d with
  | ((x, b, n, i, ()), ()) => (b, x, n, i)
def I_unl : A_unl → Prop := fun ⟨b, x, n, i⟩ => n = b.length ∧ 0 ≤ i ∧ b.length ≤ 8
noncomputable def G_unl : A_unl → Tree (Ex × St) := fun ⟨b, x, n, i⟩ => .ret (.exit 0, ⟨[(3, .p (.one (.w .u64 (fbL (b.drop i.toNat) i.toNat x))))], [], 0⟩)
noncomputable def orc_unl : Orc := ⟨sh_unl, [], [3], [], fun d => ckP (I_unl (v_unl d)) (G_unl (v_unl d))⟩
noncomputable def LT_unl : LT := oneL p_unl orc_unl (noL)
noncomputable def T_unl : Bys × (BitVec 64) × Int × Int → Tree (A_unl ⊕ (Ex × St)) := fun ⟨b, x, n, i⟩ => 
Tree.ite (decide (i < n)) (Tree.ite (decide ((0 : Int) ≤ i) && decide (i < (↑(List.length b) : Int))) (Tree.ite (decide (IntKind.i64.wrap ((8 : Int) * i) < (0 : Int))) Tree.fail (Tree.ret (Sum.inl (b, x ||| BitVec.setWidth (64 : Nat) (List.getD b i.toNat (BitVec.ofNat 8 0, ())).fst <<< (IntKind.i64.wrap ((8 : Int) * i)).toNat, n, IntKind.i64.wrap (i + (1 : Int)))))) Tree.fail) (Tree.ret (Sum.inr (Ex.exit (0 : Nat), { env := [((3 : Nat), AV.p (Part.one (Cell.w IntKind.u64 x)))], hp := [], nx := (0 : Nat) })))
theorem turn_unl : ∀ a : A_unl, (turnT 0 orc_unl (evalCode Tryz.prog (lk L_little) Tryz.f112.ntmps 0 20 LT_unl (bodyAt c_unl p_unl) false (0 :: p_unl)) (sh_unl.enc (e_unl a))).run = ((T_unl a).bind fun s => .ret (turnV sh_unl e_unl s)).run := by
  rintro ⟨b, x, n, i⟩
  kernel_rfl

def μ_unl : A_unl → Nat := fun ⟨b, x, n, i⟩ => b.length - i.toNat
theorem step_unl : ∀ a : A_unl, I_unl a → (∃ a', (T_unl a).run = some (.inl a') ∧ I_unl a' ∧ μ_unl a' < μ_unl a ∧ (G_unl a').run = (G_unl a).run) ∨ (∃ y, (T_unl a).run = some (.inr y) ∧ (G_unl a).run = some y ∧ ((∃ id, y.1 = .exit id) ∨ y.1 = .ret)) := by
  rintro ⟨b, x, n, i⟩ ⟨rfl, h1, h2⟩
  simp only [T_unl]
  by_cases hi : i < b.length
  · left
    rw [goTd hi, goTa ⟨h1, hi⟩, wrap64 (n := 8 * i) (by omega) (by omega), goFd (by omega), wrap64 (n := i + 1) (by omega) (by omega)]
    refine ⟨_, rfl, ⟨rfl, by omega, h2⟩, by simp only [μ_unl]; omega, ?_⟩
    simp only [G_unl, Tree.run]
    rw [drop_cons (l := b) (i := i.toNat) (by omega) (BitVec.ofNat 8 0, ()), fbL, toNat_up h1, show (8 * i).toNat = 8 * i.toNat by omega]
  · right
    rw [goFd hi]
    refine ⟨_, rfl, ?_, .inl ⟨0, rfl⟩⟩
    simp only [G_unl, Tree.run]
    rw [List.drop_of_length_le (by omega), fbL]
theorem lok_unl : LOk Tryz.prog (lk L_little) Tryz.f112.ntmps 0 20 LT_unl c_unl := lok_view (noL_ok2 _ _ _ _ _ _ _) (by kernel_rfl) e_unl (by rintro ⟨⟨x, b, n, i, ⟨⟩⟩, ⟨⟩⟩; exact ⟨(b, x, n, i), rfl⟩) T_unl turn_unl I_unl G_unl (by rintro ⟨b, x, n, i⟩; rfl) μ_unl step_unl
def ea_unl : Bys → denAs [.c (.d bytesT)] := fun b => (b, ())
def eo_unl : Bys → denObs [] := fun b => ()
noncomputable def E_unl : Bys → Tree (AV × List Ob) := fun b => 
Tree.ite (decC ((↑(List.length b) : Int) = (↑(List.length b) : Int) ∧ (0 : Int) ≤ (0 : Int) ∧ List.length b ≤ (8 : Nat))) (Tree.ret (AV.p (Part.one (Cell.w IntKind.u64 (fbL (List.drop (0 : Nat) b) (0 : Nat) (BitVec.ofInt (64 : Nat) (0 : Int))))), [])) Tree.fail
noncomputable def F_unl : denAs [.c (.d bytesT)] → denObs [] → Tree (AV × List Ob) := fun x y => match x, y with
  | (b, ()), () => ckP (b.length ≤ 8) (.ret (AV.c (.w .u64 (unL b)), []))
theorem ev_unl : ∀ a, (evalFnL Tryz.prog (lk L_little) 20 LT_unl Tryz.f112 c_unl [] (encAs [.c (.d bytesT)] (ea_unl a)) (encOs [] (eo_unl a))).run = (E_unl a).run := by
  rintro b
  kernel_rfl
theorem fe_unl : ∀ a y, (F_unl (ea_unl a) (eo_unl a)).run = some y → (E_unl a).run = some y := by
  rintro b y h
  obtain ⟨h1, h⟩ := ckP_run h
  rw [← h]
  dsimp only [E_unl]
  exact (goT (decP ⟨rfl, Int.le_refl 0, h1⟩)).trans rfl
theorem ok_unl : SummOk Kn Tryz.prog 112 (sumT [.dp bytesT] false [.c (.d bytesT)] [] F_unl) := sumT_view tok_little Tryz.checked.mixed Tryz.func112 (by kernel_rfl) (by rfl) 20 [] ea_unl eo_unl
  (by rintro ⟨b, ⟨⟩⟩ ⟨⟩; exact ⟨b, rfl, rfl⟩) LT_unl 0 (by rintro ⟨⟩; rfl) lok_unl E_unl ev_unl fe_unl
noncomputable def L_unl : List (Nat × Summ) := (112, (sumT [.dp bytesT] false [.c (.d bytesT)] [] F_unl)) :: L_little
theorem tok_unl : TOk Kn Tryz.prog (lk L_unl) := lk_cons ok_unl tok_little

noncomputable abbrev c_enc : Code := Tryz.f39.body.getD .skip
def p_enc : List Nat := [0, 1, 0, 1, 1]
def sh_enc : Shape := ⟨[(3, .c (.h 0)), (6, .c (.d insT)), (7, .c (.i .i64)), (8, .c (.i .i64))], [.row bytesT]⟩
@[reducible] def A_enc : Type := Slots × Int × Int × Bys
def e_enc : A_enc → sh_enc.den := fun ⟨l, n, i, o⟩ => (((), l, n, i, ()), (o, ()))
def v_enc : sh_enc.den → A_enc := fun d => match d with
  | (((), l, n, i, ()), (o, ())) => (l, n, i, o)
def I_enc : A_enc → Prop := fun ⟨l, n, i, o⟩ => n = l.length ∧ 0 ≤ i ∧ i ≤ n ∧ l.length ≤ 1000000 ∧ o = encL (l.take i.toNat)
noncomputable def G_enc : A_enc → Tree (Ex × St) := fun ⟨l, n, i, o⟩ => .ret (.exit 0, ⟨[(3, .p (.one (.h 0)))], [(0, .row bytesT (encL l))], 1⟩)
noncomputable def orc_enc : Orc := ⟨sh_enc, [(3, bytesT)], [3], [], fun d => ckP (I_enc (v_enc d)) (G_enc (v_enc d))⟩
noncomputable def LT_enc : LT := oneL p_enc orc_enc (noL)
noncomputable def T_enc : Slots × Int × Int × Bys → Tree (A_enc ⊕ (Ex × St)) := fun ⟨l, n, i, o⟩ => 
Tree.ite (decide (i < n)) (Tree.ite (decide ((0 : Int) ≤ i) && decide (i < (↑(List.length l) : Int))) (Tree.ite (bytesOk (List.length o + (2 : Nat)) (1 : Nat) && (List.length o + (2 : Nat)).ble (140737488355328 : Nat)) (Tree.ite (bytesOk ((o ++ [((List.getD l i.toNat noIns).fst, ()), ((List.getD l i.toNat noIns).snd.snd.fst <<< (4 : Nat) ||| (List.getD l i.toNat noIns).snd.fst &&& BitVec.ofInt (8 : Nat) (15 : Int), ())]).length + (1 : Nat)) (1 : Nat) && ((o ++ [((List.getD l i.toNat noIns).fst, ()), ((List.getD l i.toNat noIns).snd.snd.fst <<< (4 : Nat) ||| (List.getD l i.toNat noIns).snd.fst &&& BitVec.ofInt (8 : Nat) (15 : Int), ())]).length + (1 : Nat)).ble (140737488355328 : Nat)) (Tree.ite (bytesOk ((o ++ [((List.getD l i.toNat noIns).fst, ()), ((List.getD l i.toNat noIns).snd.snd.fst <<< (4 : Nat) ||| (List.getD l i.toNat noIns).snd.fst &&& BitVec.ofInt (8 : Nat) (15 : Int), ())] ++ [(BitVec.setWidth (8 : Nat) (BitVec.setWidth (64 : Nat) (BitVec.ofInt (16 : Nat) (List.getD l i.toNat noIns).snd.snd.snd.fst) >>> (0 : Nat)), ())]).length + (1 : Nat)) (1 : Nat) && ((o ++ [((List.getD l i.toNat noIns).fst, ()), ((List.getD l i.toNat noIns).snd.snd.fst <<< (4 : Nat) ||| (List.getD l i.toNat noIns).snd.fst &&& BitVec.ofInt (8 : Nat) (15 : Int), ())] ++ [(BitVec.setWidth (8 : Nat) (BitVec.setWidth (64 : Nat) (BitVec.ofInt (16 : Nat) (List.getD l i.toNat noIns).snd.snd.snd.fst) >>> (0 : Nat)), ())]).length + (1 : Nat)).ble (140737488355328 : Nat)) (Tree.ite (bytesOk ((o ++ [((List.getD l i.toNat noIns).fst, ()), ((List.getD l i.toNat noIns).snd.snd.fst <<< (4 : Nat) ||| (List.getD l i.toNat noIns).snd.fst &&& BitVec.ofInt (8 : Nat) (15 : Int), ())] ++ [(BitVec.setWidth (8 : Nat) (BitVec.setWidth (64 : Nat) (BitVec.ofInt (16 : Nat) (List.getD l i.toNat noIns).snd.snd.snd.fst) >>> (0 : Nat)), ())] ++ [(BitVec.setWidth (8 : Nat) (BitVec.setWidth (64 : Nat) (BitVec.ofInt (16 : Nat) (List.getD l i.toNat noIns).snd.snd.snd.fst) >>> (8 : Nat)), ())]).length + (1 : Nat)) (1 : Nat) && ((o ++ [((List.getD l i.toNat noIns).fst, ()), ((List.getD l i.toNat noIns).snd.snd.fst <<< (4 : Nat) ||| (List.getD l i.toNat noIns).snd.fst &&& BitVec.ofInt (8 : Nat) (15 : Int), ())] ++ [(BitVec.setWidth (8 : Nat) (BitVec.setWidth (64 : Nat) (BitVec.ofInt (16 : Nat) (List.getD l i.toNat noIns).snd.snd.snd.fst) >>> (0 : Nat)), ())] ++ [(BitVec.setWidth (8 : Nat) (BitVec.setWidth (64 : Nat) (BitVec.ofInt (16 : Nat) (List.getD l i.toNat noIns).snd.snd.snd.fst) >>> (8 : Nat)), ())]).length + (1 : Nat)).ble (140737488355328 : Nat)) (Tree.ite (bytesOk ((o ++ [((List.getD l i.toNat noIns).fst, ()), ((List.getD l i.toNat noIns).snd.snd.fst <<< (4 : Nat) ||| (List.getD l i.toNat noIns).snd.fst &&& BitVec.ofInt (8 : Nat) (15 : Int), ())] ++ [(BitVec.setWidth (8 : Nat) (BitVec.setWidth (64 : Nat) (BitVec.ofInt (16 : Nat) (List.getD l i.toNat noIns).snd.snd.snd.fst) >>> (0 : Nat)), ())] ++ [(BitVec.setWidth (8 : Nat) (BitVec.setWidth (64 : Nat) (BitVec.ofInt (16 : Nat) (List.getD l i.toNat noIns).snd.snd.snd.fst) >>> (8 : Nat)), ())] ++ [(BitVec.setWidth (8 : Nat) (BitVec.setWidth (64 : Nat) (BitVec.ofInt (32 : Nat) (List.getD l i.toNat noIns).snd.snd.snd.snd.fst) >>> (0 : Nat)), ())]).length + (1 : Nat)) (1 : Nat) && ((o ++ [((List.getD l i.toNat noIns).fst, ()), ((List.getD l i.toNat noIns).snd.snd.fst <<< (4 : Nat) ||| (List.getD l i.toNat noIns).snd.fst &&& BitVec.ofInt (8 : Nat) (15 : Int), ())] ++ [(BitVec.setWidth (8 : Nat) (BitVec.setWidth (64 : Nat) (BitVec.ofInt (16 : Nat) (List.getD l i.toNat noIns).snd.snd.snd.fst) >>> (0 : Nat)), ())] ++ [(BitVec.setWidth (8 : Nat) (BitVec.setWidth (64 : Nat) (BitVec.ofInt (16 : Nat) (List.getD l i.toNat noIns).snd.snd.snd.fst) >>> (8 : Nat)), ())] ++ [(BitVec.setWidth (8 : Nat) (BitVec.setWidth (64 : Nat) (BitVec.ofInt (32 : Nat) (List.getD l i.toNat noIns).snd.snd.snd.snd.fst) >>> (0 : Nat)), ())]).length + (1 : Nat)).ble (140737488355328 : Nat)) (Tree.ite (bytesOk ((o ++ [((List.getD l i.toNat noIns).fst, ()), ((List.getD l i.toNat noIns).snd.snd.fst <<< (4 : Nat) ||| (List.getD l i.toNat noIns).snd.fst &&& BitVec.ofInt (8 : Nat) (15 : Int), ())] ++ [(BitVec.setWidth (8 : Nat) (BitVec.setWidth (64 : Nat) (BitVec.ofInt (16 : Nat) (List.getD l i.toNat noIns).snd.snd.snd.fst) >>> (0 : Nat)), ())] ++ [(BitVec.setWidth (8 : Nat) (BitVec.setWidth (64 : Nat) (BitVec.ofInt (16 : Nat) (List.getD l i.toNat noIns).snd.snd.snd.fst) >>> (8 : Nat)), ())] ++ [(BitVec.setWidth (8 : Nat) (BitVec.setWidth (64 : Nat) (BitVec.ofInt (32 : Nat) (List.getD l i.toNat noIns).snd.snd.snd.snd.fst) >>> (0 : Nat)), ())] ++ [(BitVec.setWidth (8 : Nat) (BitVec.setWidth (64 : Nat) (BitVec.ofInt (32 : Nat) (List.getD l i.toNat noIns).snd.snd.snd.snd.fst) >>> (8 : Nat)), ())]).length + (1 : Nat)) (1 : Nat) && ((o ++ [((List.getD l i.toNat noIns).fst, ()), ((List.getD l i.toNat noIns).snd.snd.fst <<< (4 : Nat) ||| (List.getD l i.toNat noIns).snd.fst &&& BitVec.ofInt (8 : Nat) (15 : Int), ())] ++ [(BitVec.setWidth (8 : Nat) (BitVec.setWidth (64 : Nat) (BitVec.ofInt (16 : Nat) (List.getD l i.toNat noIns).snd.snd.snd.fst) >>> (0 : Nat)), ())] ++ [(BitVec.setWidth (8 : Nat) (BitVec.setWidth (64 : Nat) (BitVec.ofInt (16 : Nat) (List.getD l i.toNat noIns).snd.snd.snd.fst) >>> (8 : Nat)), ())] ++ [(BitVec.setWidth (8 : Nat) (BitVec.setWidth (64 : Nat) (BitVec.ofInt (32 : Nat) (List.getD l i.toNat noIns).snd.snd.snd.snd.fst) >>> (0 : Nat)), ())] ++ [(BitVec.setWidth (8 : Nat) (BitVec.setWidth (64 : Nat) (BitVec.ofInt (32 : Nat) (List.getD l i.toNat noIns).snd.snd.snd.snd.fst) >>> (8 : Nat)), ())]).length + (1 : Nat)).ble (140737488355328 : Nat)) (Tree.ite (bytesOk ((o ++ [((List.getD l i.toNat noIns).fst, ()), ((List.getD l i.toNat noIns).snd.snd.fst <<< (4 : Nat) ||| (List.getD l i.toNat noIns).snd.fst &&& BitVec.ofInt (8 : Nat) (15 : Int), ())] ++ [(BitVec.setWidth (8 : Nat) (BitVec.setWidth (64 : Nat) (BitVec.ofInt (16 : Nat) (List.getD l i.toNat noIns).snd.snd.snd.fst) >>> (0 : Nat)), ())] ++ [(BitVec.setWidth (8 : Nat) (BitVec.setWidth (64 : Nat) (BitVec.ofInt (16 : Nat) (List.getD l i.toNat noIns).snd.snd.snd.fst) >>> (8 : Nat)), ())] ++ [(BitVec.setWidth (8 : Nat) (BitVec.setWidth (64 : Nat) (BitVec.ofInt (32 : Nat) (List.getD l i.toNat noIns).snd.snd.snd.snd.fst) >>> (0 : Nat)), ())] ++ [(BitVec.setWidth (8 : Nat) (BitVec.setWidth (64 : Nat) (BitVec.ofInt (32 : Nat) (List.getD l i.toNat noIns).snd.snd.snd.snd.fst) >>> (8 : Nat)), ())] ++ [(BitVec.setWidth (8 : Nat) (BitVec.setWidth (64 : Nat) (BitVec.ofInt (32 : Nat) (List.getD l i.toNat noIns).snd.snd.snd.snd.fst) >>> (16 : Nat)), ())]).length + (1 : Nat)) (1 : Nat) && ((o ++ [((List.getD l i.toNat noIns).fst, ()), ((List.getD l i.toNat noIns).snd.snd.fst <<< (4 : Nat) ||| (List.getD l i.toNat noIns).snd.fst &&& BitVec.ofInt (8 : Nat) (15 : Int), ())] ++ [(BitVec.setWidth (8 : Nat) (BitVec.setWidth (64 : Nat) (BitVec.ofInt (16 : Nat) (List.getD l i.toNat noIns).snd.snd.snd.fst) >>> (0 : Nat)), ())] ++ [(BitVec.setWidth (8 : Nat) (BitVec.setWidth (64 : Nat) (BitVec.ofInt (16 : Nat) (List.getD l i.toNat noIns).snd.snd.snd.fst) >>> (8 : Nat)), ())] ++ [(BitVec.setWidth (8 : Nat) (BitVec.setWidth (64 : Nat) (BitVec.ofInt (32 : Nat) (List.getD l i.toNat noIns).snd.snd.snd.snd.fst) >>> (0 : Nat)), ())] ++ [(BitVec.setWidth (8 : Nat) (BitVec.setWidth (64 : Nat) (BitVec.ofInt (32 : Nat) (List.getD l i.toNat noIns).snd.snd.snd.snd.fst) >>> (8 : Nat)), ())] ++ [(BitVec.setWidth (8 : Nat) (BitVec.setWidth (64 : Nat) (BitVec.ofInt (32 : Nat) (List.getD l i.toNat noIns).snd.snd.snd.snd.fst) >>> (16 : Nat)), ())]).length + (1 : Nat)).ble (140737488355328 : Nat)) (Tree.ret (Sum.inl (l, n, IntKind.i64.wrap (i + (1 : Int)), o ++ [((List.getD l i.toNat noIns).fst, ()), ((List.getD l i.toNat noIns).snd.snd.fst <<< (4 : Nat) ||| (List.getD l i.toNat noIns).snd.fst &&& BitVec.ofInt (8 : Nat) (15 : Int), ())] ++ [(BitVec.setWidth (8 : Nat) (BitVec.setWidth (64 : Nat) (BitVec.ofInt (16 : Nat) (List.getD l i.toNat noIns).snd.snd.snd.fst) >>> (0 : Nat)), ())] ++ [(BitVec.setWidth (8 : Nat) (BitVec.setWidth (64 : Nat) (BitVec.ofInt (16 : Nat) (List.getD l i.toNat noIns).snd.snd.snd.fst) >>> (8 : Nat)), ())] ++ [(BitVec.setWidth (8 : Nat) (BitVec.setWidth (64 : Nat) (BitVec.ofInt (32 : Nat) (List.getD l i.toNat noIns).snd.snd.snd.snd.fst) >>> (0 : Nat)), ())] ++ [(BitVec.setWidth (8 : Nat) (BitVec.setWidth (64 : Nat) (BitVec.ofInt (32 : Nat) (List.getD l i.toNat noIns).snd.snd.snd.snd.fst) >>> (8 : Nat)), ())] ++ [(BitVec.setWidth (8 : Nat) (BitVec.setWidth (64 : Nat) (BitVec.ofInt (32 : Nat) (List.getD l i.toNat noIns).snd.snd.snd.snd.fst) >>> (16 : Nat)), ())] ++ [(BitVec.setWidth (8 : Nat) (BitVec.setWidth (64 : Nat) (BitVec.ofInt (32 : Nat) (List.getD l i.toNat noIns).snd.snd.snd.snd.fst) >>> (24 : Nat)), ())]))) Tree.fail) Tree.fail) Tree.fail) Tree.fail) Tree.fail) Tree.fail) Tree.fail) Tree.fail) (Tree.ret (Sum.inr (Ex.exit (0 : Nat), { env := [((3 : Nat), AV.p (Part.one (Cell.h (0 : Nat))))], hp := [((0 : Nat), Ob.row bytesT o)], nx := (1 : Nat) })))
theorem turn_enc : ∀ a : A_enc, (turnT 0 orc_enc (evalCode Tryz.prog (lk L_unl) Tryz.f39.ntmps 0 20 LT_enc (bodyAt c_enc p_enc) false (0 :: p_enc)) (sh_enc.enc (e_enc a))).run = ((T_enc a).bind fun s => .ret (turnV sh_enc e_enc s)).run := by
  rintro ⟨l, n, i, o⟩
  kernel_rfl

def μ_enc : A_enc → Nat := fun ⟨l, n, i, o⟩ => l.length - i.toNat
theorem step_enc : ∀ a : A_enc, I_enc a → (∃ a', (T_enc a).run = some (.inl a') ∧ I_enc a' ∧ μ_enc a' < μ_enc a ∧ (G_enc a').run = (G_enc a).run) ∨ (∃ y, (T_enc a).run = some (.inr y) ∧ (G_enc a).run = some y ∧ ((∃ id, y.1 = .exit id) ∨ y.1 = .ret)) := by
  rintro ⟨l, n, i, o⟩ ⟨rfl, h1, h2, h3, rfl⟩
  have ho : (encL (l.take i.toNat)).length ≤ 8 * i.toNat := by rw [encL_len, List.length_take]; omega
  simp only [T_enc]
  by_cases hi : i < l.length
  · left
    have hup := encL_up l i.toNat (by omega)
    rw [← toNat_up h1] at hup
    rw [goTd hi, goTa ⟨h1, hi⟩, wrap64 (n := i + 1) (by omega) (by omega)]
    generalize encL (l.take i.toNat) = o at *
    rw [goTb ⟨by omega, by omega⟩]
    iterate 6 rw [goTb ⟨by simp only [List.length_append, List.length_cons, List.length_nil]; omega, by simp only [List.length_append, List.length_cons, List.length_nil]; omega⟩]
    refine ⟨_, rfl, ⟨rfl, by omega, by omega, h3, ?_⟩, by simp only [μ_enc]; omega, rfl⟩
    rw [hup]
    simp only [byte16, byte32, List.append_assoc, Nat.pow_zero, Nat.div_one]
    rfl
  · right
    rw [goFd hi]
    refine ⟨_, rfl, ?_, .inl ⟨0, rfl⟩⟩
    simp only [G_enc, Tree.run]
    rw [List.take_of_length_le (by omega)]
theorem lok_enc : LOk Tryz.prog (lk L_unl) Tryz.f39.ntmps 0 20 LT_enc c_enc := lok_view (noL_ok2 _ _ _ _ _ _ _) (by kernel_rfl) e_enc (by rintro ⟨⟨⟨⟩, l, n, i, ⟨⟩⟩, ⟨o, ⟨⟩⟩⟩; exact ⟨(l, n, i, o), rfl⟩) T_enc turn_enc I_enc G_enc (by rintro ⟨l, n, i, o⟩; rfl) μ_enc step_enc
def ea_enc : Slots → denAs [.c (.d insT)] := fun l => (l, ())
def eo_enc : Slots → denObs [] := fun l => ()
noncomputable def E_enc : Slots → Tree (AV × List Ob) := fun l => 
Tree.ite (decC ((↑(List.length l) : Int) = (↑(List.length l) : Int) ∧ (0 : Int) ≤ (0 : Int) ∧ (0 : Int) ≤ (↑(List.length l) : Int) ∧ List.length l ≤ (1000000 : Nat) ∧ [] = encL (List.take (0 : Nat) l))) (Tree.ret (AV.p (Part.one (Cell.h (0 : Nat))), [Ob.row bytesT (encL l)])) Tree.fail
noncomputable def F_enc : denAs [.c (.d insT)] → denObs [] → Tree (AV × List Ob) := fun x y => match x, y with
  | (l, ()), () => ckP (l.length ≤ 1000000) (.ret (AV.c (.h 0), [.row bytesT (encL l)]))
theorem ev_enc : ∀ a, (evalFnL Tryz.prog (lk L_unl) 20 LT_enc Tryz.f39 c_enc [(0, bytesT)] (encAs [.c (.d insT)] (ea_enc a)) (encOs [] (eo_enc a))).run = (E_enc a).run := by
  rintro l
  kernel_rfl
theorem fe_enc : ∀ a y, (F_enc (ea_enc a) (eo_enc a)).run = some y → (E_enc a).run = some y := by
  rintro l y h
  obtain ⟨h1, h⟩ := ckP_run h
  rw [← h]
  dsimp only [E_enc]
  refine (goT (decP ⟨rfl, Int.le_refl 0, ?_, h1, rfl⟩)).trans rfl
  omega
theorem ok_enc : SummOk Kn Tryz.prog 39 (sumT [.dp insT] false [.c (.d insT)] [] F_enc) := sumT_view tok_unl Tryz.checked.mixed Tryz.func39 (by kernel_rfl) (by rfl) 20 [(0, bytesT)] ea_enc eo_enc
  (by rintro ⟨l, ⟨⟩⟩ ⟨⟩; exact ⟨l, rfl, rfl⟩) LT_enc 0 (by rintro ⟨⟩; rfl) lok_enc E_enc ev_enc fe_enc
noncomputable def L_enc : List (Nat × Summ) := (39, (sumT [.dp insT] false [.c (.d insT)] [] F_enc)) :: L_unl
theorem tok_enc : TOk Kn Tryz.prog (lk L_enc) := lk_cons ok_enc tok_unl

noncomputable abbrev c_renc : Code := Tryz.f42.body.getD .skip
def p_renc : List Nat := [0, 1, 0, 1, 1]
def sh_renc : Shape := ⟨[(0, .c (.d insT)), (3, .c (.h 0)), (4, .c (.i .i64))], [.row bytesT]⟩
@[reducible] def A_renc : Type := Slots × Int × Bys
def e_renc : A_renc → sh_renc.den := fun ⟨l, i, o⟩ => ((l, (), i, ()), (o, ()))
def v_renc : sh_renc.den → A_renc := fun d => match d with
  | ((l, (), i, ()), (o, ())) => (l, i, o)
def I_renc : A_renc → Prop := fun ⟨l, i, o⟩ => 0 ≤ i ∧ i ≤ l.length ∧ l.length ≤ 1000000 ∧ o = encL (l.take i.toNat)
noncomputable def G_renc : A_renc → Tree (Ex × St) := fun ⟨l, i, o⟩ => .ret (.exit 0, ⟨[(3, .p (.one (.h 0)))], [(0, .row bytesT (encL l))], 1⟩)
noncomputable def orc_renc : Orc := ⟨sh_renc, [(3, bytesT)], [3], [], fun d => ckP (I_renc (v_renc d)) (G_renc (v_renc d))⟩
noncomputable def LT_renc : LT := oneL p_renc orc_renc (noL)
noncomputable def T_renc : Slots × Int × Bys → Tree (A_renc ⊕ (Ex × St)) := fun ⟨l, i, o⟩ => 
Tree.ite (decide (i < (↑(List.length l) : Int))) (Tree.ite (decide ((0 : Int) ≤ i) && decide (i < (↑(List.length l) : Int))) (Tree.ite (bytesOk (List.length o + (2 : Nat)) (1 : Nat) && (List.length o + (2 : Nat)).ble (140737488355328 : Nat)) (Tree.ite (bytesOk ((o ++ [((List.getD l i.toNat noIns).fst, ()), ((List.getD l i.toNat noIns).snd.snd.fst % BitVec.ofInt (8 : Nat) (16 : Int) * BitVec.ofInt (8 : Nat) (16 : Int) + (List.getD l i.toNat noIns).snd.fst % BitVec.ofInt (8 : Nat) (16 : Int), ())]).length + (2 : Nat)) (1 : Nat) && ((o ++ [((List.getD l i.toNat noIns).fst, ()), ((List.getD l i.toNat noIns).snd.snd.fst % BitVec.ofInt (8 : Nat) (16 : Int) * BitVec.ofInt (8 : Nat) (16 : Int) + (List.getD l i.toNat noIns).snd.fst % BitVec.ofInt (8 : Nat) (16 : Int), ())]).length + (2 : Nat)).ble (140737488355328 : Nat)) (Tree.ite (bytesOk ((o ++ [((List.getD l i.toNat noIns).fst, ()), ((List.getD l i.toNat noIns).snd.snd.fst % BitVec.ofInt (8 : Nat) (16 : Int) * BitVec.ofInt (8 : Nat) (16 : Int) + (List.getD l i.toNat noIns).snd.fst % BitVec.ofInt (8 : Nat) (16 : Int), ())] ++ [(BitVec.setWidth (8 : Nat) (BitVec.ofInt (16 : Nat) (List.getD l i.toNat noIns).snd.snd.snd.fst % BitVec.ofInt (16 : Nat) (256 : Int)), ()), (BitVec.setWidth (8 : Nat) (BitVec.ofInt (16 : Nat) (List.getD l i.toNat noIns).snd.snd.snd.fst / BitVec.ofInt (16 : Nat) (256 : Int)), ())]).length + (1 : Nat)) (1 : Nat) && ((o ++ [((List.getD l i.toNat noIns).fst, ()), ((List.getD l i.toNat noIns).snd.snd.fst % BitVec.ofInt (8 : Nat) (16 : Int) * BitVec.ofInt (8 : Nat) (16 : Int) + (List.getD l i.toNat noIns).snd.fst % BitVec.ofInt (8 : Nat) (16 : Int), ())] ++ [(BitVec.setWidth (8 : Nat) (BitVec.ofInt (16 : Nat) (List.getD l i.toNat noIns).snd.snd.snd.fst % BitVec.ofInt (16 : Nat) (256 : Int)), ()), (BitVec.setWidth (8 : Nat) (BitVec.ofInt (16 : Nat) (List.getD l i.toNat noIns).snd.snd.snd.fst / BitVec.ofInt (16 : Nat) (256 : Int)), ())]).length + (1 : Nat)).ble (140737488355328 : Nat)) (Tree.ite (bytesOk ((o ++ [((List.getD l i.toNat noIns).fst, ()), ((List.getD l i.toNat noIns).snd.snd.fst % BitVec.ofInt (8 : Nat) (16 : Int) * BitVec.ofInt (8 : Nat) (16 : Int) + (List.getD l i.toNat noIns).snd.fst % BitVec.ofInt (8 : Nat) (16 : Int), ())] ++ [(BitVec.setWidth (8 : Nat) (BitVec.ofInt (16 : Nat) (List.getD l i.toNat noIns).snd.snd.snd.fst % BitVec.ofInt (16 : Nat) (256 : Int)), ()), (BitVec.setWidth (8 : Nat) (BitVec.ofInt (16 : Nat) (List.getD l i.toNat noIns).snd.snd.snd.fst / BitVec.ofInt (16 : Nat) (256 : Int)), ())] ++ [(BitVec.setWidth (8 : Nat) (BitVec.ofInt (32 : Nat) (List.getD l i.toNat noIns).snd.snd.snd.snd.fst >>> (0 : Nat)), ())]).length + (1 : Nat)) (1 : Nat) && ((o ++ [((List.getD l i.toNat noIns).fst, ()), ((List.getD l i.toNat noIns).snd.snd.fst % BitVec.ofInt (8 : Nat) (16 : Int) * BitVec.ofInt (8 : Nat) (16 : Int) + (List.getD l i.toNat noIns).snd.fst % BitVec.ofInt (8 : Nat) (16 : Int), ())] ++ [(BitVec.setWidth (8 : Nat) (BitVec.ofInt (16 : Nat) (List.getD l i.toNat noIns).snd.snd.snd.fst % BitVec.ofInt (16 : Nat) (256 : Int)), ()), (BitVec.setWidth (8 : Nat) (BitVec.ofInt (16 : Nat) (List.getD l i.toNat noIns).snd.snd.snd.fst / BitVec.ofInt (16 : Nat) (256 : Int)), ())] ++ [(BitVec.setWidth (8 : Nat) (BitVec.ofInt (32 : Nat) (List.getD l i.toNat noIns).snd.snd.snd.snd.fst >>> (0 : Nat)), ())]).length + (1 : Nat)).ble (140737488355328 : Nat)) (Tree.ite (bytesOk ((o ++ [((List.getD l i.toNat noIns).fst, ()), ((List.getD l i.toNat noIns).snd.snd.fst % BitVec.ofInt (8 : Nat) (16 : Int) * BitVec.ofInt (8 : Nat) (16 : Int) + (List.getD l i.toNat noIns).snd.fst % BitVec.ofInt (8 : Nat) (16 : Int), ())] ++ [(BitVec.setWidth (8 : Nat) (BitVec.ofInt (16 : Nat) (List.getD l i.toNat noIns).snd.snd.snd.fst % BitVec.ofInt (16 : Nat) (256 : Int)), ()), (BitVec.setWidth (8 : Nat) (BitVec.ofInt (16 : Nat) (List.getD l i.toNat noIns).snd.snd.snd.fst / BitVec.ofInt (16 : Nat) (256 : Int)), ())] ++ [(BitVec.setWidth (8 : Nat) (BitVec.ofInt (32 : Nat) (List.getD l i.toNat noIns).snd.snd.snd.snd.fst >>> (0 : Nat)), ())] ++ [(BitVec.setWidth (8 : Nat) (BitVec.ofInt (32 : Nat) (List.getD l i.toNat noIns).snd.snd.snd.snd.fst >>> (8 : Nat)), ())]).length + (1 : Nat)) (1 : Nat) && ((o ++ [((List.getD l i.toNat noIns).fst, ()), ((List.getD l i.toNat noIns).snd.snd.fst % BitVec.ofInt (8 : Nat) (16 : Int) * BitVec.ofInt (8 : Nat) (16 : Int) + (List.getD l i.toNat noIns).snd.fst % BitVec.ofInt (8 : Nat) (16 : Int), ())] ++ [(BitVec.setWidth (8 : Nat) (BitVec.ofInt (16 : Nat) (List.getD l i.toNat noIns).snd.snd.snd.fst % BitVec.ofInt (16 : Nat) (256 : Int)), ()), (BitVec.setWidth (8 : Nat) (BitVec.ofInt (16 : Nat) (List.getD l i.toNat noIns).snd.snd.snd.fst / BitVec.ofInt (16 : Nat) (256 : Int)), ())] ++ [(BitVec.setWidth (8 : Nat) (BitVec.ofInt (32 : Nat) (List.getD l i.toNat noIns).snd.snd.snd.snd.fst >>> (0 : Nat)), ())] ++ [(BitVec.setWidth (8 : Nat) (BitVec.ofInt (32 : Nat) (List.getD l i.toNat noIns).snd.snd.snd.snd.fst >>> (8 : Nat)), ())]).length + (1 : Nat)).ble (140737488355328 : Nat)) (Tree.ite (bytesOk ((o ++ [((List.getD l i.toNat noIns).fst, ()), ((List.getD l i.toNat noIns).snd.snd.fst % BitVec.ofInt (8 : Nat) (16 : Int) * BitVec.ofInt (8 : Nat) (16 : Int) + (List.getD l i.toNat noIns).snd.fst % BitVec.ofInt (8 : Nat) (16 : Int), ())] ++ [(BitVec.setWidth (8 : Nat) (BitVec.ofInt (16 : Nat) (List.getD l i.toNat noIns).snd.snd.snd.fst % BitVec.ofInt (16 : Nat) (256 : Int)), ()), (BitVec.setWidth (8 : Nat) (BitVec.ofInt (16 : Nat) (List.getD l i.toNat noIns).snd.snd.snd.fst / BitVec.ofInt (16 : Nat) (256 : Int)), ())] ++ [(BitVec.setWidth (8 : Nat) (BitVec.ofInt (32 : Nat) (List.getD l i.toNat noIns).snd.snd.snd.snd.fst >>> (0 : Nat)), ())] ++ [(BitVec.setWidth (8 : Nat) (BitVec.ofInt (32 : Nat) (List.getD l i.toNat noIns).snd.snd.snd.snd.fst >>> (8 : Nat)), ())] ++ [(BitVec.setWidth (8 : Nat) (BitVec.ofInt (32 : Nat) (List.getD l i.toNat noIns).snd.snd.snd.snd.fst >>> (16 : Nat)), ())]).length + (1 : Nat)) (1 : Nat) && ((o ++ [((List.getD l i.toNat noIns).fst, ()), ((List.getD l i.toNat noIns).snd.snd.fst % BitVec.ofInt (8 : Nat) (16 : Int) * BitVec.ofInt (8 : Nat) (16 : Int) + (List.getD l i.toNat noIns).snd.fst % BitVec.ofInt (8 : Nat) (16 : Int), ())] ++ [(BitVec.setWidth (8 : Nat) (BitVec.ofInt (16 : Nat) (List.getD l i.toNat noIns).snd.snd.snd.fst % BitVec.ofInt (16 : Nat) (256 : Int)), ()), (BitVec.setWidth (8 : Nat) (BitVec.ofInt (16 : Nat) (List.getD l i.toNat noIns).snd.snd.snd.fst / BitVec.ofInt (16 : Nat) (256 : Int)), ())] ++ [(BitVec.setWidth (8 : Nat) (BitVec.ofInt (32 : Nat) (List.getD l i.toNat noIns).snd.snd.snd.snd.fst >>> (0 : Nat)), ())] ++ [(BitVec.setWidth (8 : Nat) (BitVec.ofInt (32 : Nat) (List.getD l i.toNat noIns).snd.snd.snd.snd.fst >>> (8 : Nat)), ())] ++ [(BitVec.setWidth (8 : Nat) (BitVec.ofInt (32 : Nat) (List.getD l i.toNat noIns).snd.snd.snd.snd.fst >>> (16 : Nat)), ())]).length + (1 : Nat)).ble (140737488355328 : Nat)) (Tree.ret (Sum.inl (l, IntKind.i64.wrap (i + (1 : Int)), o ++ [((List.getD l i.toNat noIns).fst, ()), ((List.getD l i.toNat noIns).snd.snd.fst % BitVec.ofInt (8 : Nat) (16 : Int) * BitVec.ofInt (8 : Nat) (16 : Int) + (List.getD l i.toNat noIns).snd.fst % BitVec.ofInt (8 : Nat) (16 : Int), ())] ++ [(BitVec.setWidth (8 : Nat) (BitVec.ofInt (16 : Nat) (List.getD l i.toNat noIns).snd.snd.snd.fst % BitVec.ofInt (16 : Nat) (256 : Int)), ()), (BitVec.setWidth (8 : Nat) (BitVec.ofInt (16 : Nat) (List.getD l i.toNat noIns).snd.snd.snd.fst / BitVec.ofInt (16 : Nat) (256 : Int)), ())] ++ [(BitVec.setWidth (8 : Nat) (BitVec.ofInt (32 : Nat) (List.getD l i.toNat noIns).snd.snd.snd.snd.fst >>> (0 : Nat)), ())] ++ [(BitVec.setWidth (8 : Nat) (BitVec.ofInt (32 : Nat) (List.getD l i.toNat noIns).snd.snd.snd.snd.fst >>> (8 : Nat)), ())] ++ [(BitVec.setWidth (8 : Nat) (BitVec.ofInt (32 : Nat) (List.getD l i.toNat noIns).snd.snd.snd.snd.fst >>> (16 : Nat)), ())] ++ [(BitVec.setWidth (8 : Nat) (BitVec.ofInt (32 : Nat) (List.getD l i.toNat noIns).snd.snd.snd.snd.fst >>> (24 : Nat)), ())]))) Tree.fail) Tree.fail) Tree.fail) Tree.fail) Tree.fail) Tree.fail) Tree.fail) (Tree.ret (Sum.inr (Ex.exit (0 : Nat), { env := [((3 : Nat), AV.p (Part.one (Cell.h (0 : Nat))))], hp := [((0 : Nat), Ob.row bytesT o)], nx := (1 : Nat) })))
theorem turn_renc : ∀ a : A_renc, (turnT 0 orc_renc (evalCode Tryz.prog (lk L_enc) Tryz.f42.ntmps 0 30 LT_renc (bodyAt c_renc p_renc) false (0 :: p_renc)) (sh_renc.enc (e_renc a))).run = ((T_renc a).bind fun s => .ret (turnV sh_renc e_renc s)).run := by
  rintro ⟨l, i, o⟩
  kernel_rfl

def μ_renc : A_renc → Nat := fun ⟨l, i, o⟩ => l.length - i.toNat
theorem step_renc : ∀ a : A_renc, I_renc a → (∃ a', (T_renc a).run = some (.inl a') ∧ I_renc a' ∧ μ_renc a' < μ_renc a ∧ (G_renc a').run = (G_renc a).run) ∨ (∃ y, (T_renc a).run = some (.inr y) ∧ (G_renc a).run = some y ∧ ((∃ id, y.1 = .exit id) ∨ y.1 = .ret)) := by
  rintro ⟨l, i, o⟩ ⟨h1, h2, h3, rfl⟩
  have ho : (encL (l.take i.toNat)).length ≤ 8 * i.toNat := by rw [encL_len, List.length_take]; omega
  simp only [T_renc]
  by_cases hi : i < l.length
  · left
    have hup := encL_up l i.toNat (by omega)
    rw [← toNat_up h1] at hup
    rw [goTd hi, goTa ⟨h1, hi⟩, wrap64 (n := i + 1) (by omega) (by omega)]
    generalize encL (l.take i.toNat) = o at *
    rw [goTb ⟨by omega, by omega⟩]
    iterate 5 rw [goTb ⟨by simp only [List.length_append, List.length_cons, List.length_nil]; omega, by simp only [List.length_append, List.length_cons, List.length_nil]; omega⟩]
    refine ⟨_, rfl, ⟨by omega, by omega, h3, ?_⟩, by simp only [μ_renc]; omega, rfl⟩
    rw [hup]
    simp only [regs_same, (rbyte16 _).1, (rbyte16 _).2, rbyte32, List.append_assoc, Nat.pow_zero, Nat.div_one]
    rfl
  · right
    rw [goFd hi]
    refine ⟨_, rfl, ?_, .inl ⟨0, rfl⟩⟩
    simp only [G_renc, Tree.run]
    rw [List.take_of_length_le (by omega)]
theorem lok_renc : LOk Tryz.prog (lk L_enc) Tryz.f42.ntmps 0 30 LT_renc c_renc := lok_view (noL_ok2 _ _ _ _ _ _ _) (by kernel_rfl) e_renc (by rintro ⟨⟨l, ⟨⟩, i, ⟨⟩⟩, ⟨o, ⟨⟩⟩⟩; exact ⟨(l, i, o), rfl⟩) T_renc turn_renc I_renc G_renc (by rintro ⟨l, i, o⟩; rfl) μ_renc step_renc
def ea_renc : Slots → denAs [.c (.d insT)] := fun l => (l, ())
def eo_renc : Slots → denObs [] := fun l => ()
noncomputable def E_renc : Slots → Tree (AV × List Ob) := fun l => 
Tree.ite (decC ((0 : Int) ≤ (0 : Int) ∧ (0 : Int) ≤ (↑(List.length l) : Int) ∧ List.length l ≤ (1000000 : Nat) ∧ [] = encL (List.take (0 : Nat) l))) (Tree.ret (AV.p (Part.one (Cell.h (0 : Nat))), [Ob.row bytesT (encL l)])) Tree.fail
noncomputable def F_renc : denAs [.c (.d insT)] → denObs [] → Tree (AV × List Ob) := fun x y => match x, y with
  | (l, ()), () => ckP (l.length ≤ 1000000) (.ret (AV.c (.h 0), [.row bytesT (encL l)]))
theorem ev_renc : ∀ a, (evalFnL Tryz.prog (lk L_enc) 30 LT_renc Tryz.f42 c_renc [(0, bytesT)] (encAs [.c (.d insT)] (ea_renc a)) (encOs [] (eo_renc a))).run = (E_renc a).run := by
  rintro l
  kernel_rfl
theorem fe_renc : ∀ a y, (F_renc (ea_renc a) (eo_renc a)).run = some y → (E_renc a).run = some y := by
  rintro l y h
  obtain ⟨h1, h⟩ := ckP_run h
  rw [← h]
  dsimp only [E_renc]
  refine (goT (decP ⟨Int.le_refl 0, ?_, h1, rfl⟩)).trans rfl
  omega
theorem ok_renc : SummOk Kn Tryz.prog 42 (sumT [.dp insT] false [.c (.d insT)] [] F_renc) := sumT_view tok_enc Tryz.checked.mixed Tryz.func42 (by kernel_rfl) (by rfl) 30 [(0, bytesT)] ea_renc eo_renc
  (by rintro ⟨l, ⟨⟩⟩ ⟨⟩; exact ⟨l, rfl, rfl⟩) LT_renc 0 (by rintro ⟨⟩; rfl) lok_renc E_renc ev_renc fe_renc
noncomputable def L_renc : List (Nat × Summ) := (42, (sumT [.dp insT] false [.c (.d insT)] [] F_renc)) :: L_enc
theorem tok_renc : TOk Kn Tryz.prog (lk L_renc) := lk_cons ok_renc tok_enc

noncomputable abbrev c_dec : Code := Tryz.f84.body.getD .skip
def p_dec : List Nat := [0, 1, 0, 1, 1, 1]
def sh_dec : Shape := ⟨[(0, .c (.d bytesT)), (4, .c (.h 0)), (13, .c (.i .i64)), (14, .c (.i .i64))], [.row insT]⟩
@[reducible] def A_dec : Type := Bys × Int × Int × Slots
def e_dec : A_dec → sh_dec.den := fun ⟨b, n, i, o⟩ => ((b, (), n, i, ()), (o, ()))
def v_dec : sh_dec.den → A_dec := fun d => match d with
  | ((b, (), n, i, ()), (o, ())) => (b, n, i, o)
def I_dec : A_dec → Prop := fun ⟨b, n, i, o⟩ => n = ((b.length / 8 : Nat) : Int) ∧ 0 ≤ i ∧ i ≤ n ∧ b.length ≤ 1000000 ∧ o = decL b i.toNat
noncomputable def G_dec : A_dec → Tree (Ex × St) := fun ⟨b, n, i, o⟩ => .ret (.exit 0, ⟨[(4, .p (.one (.h 0)))], [(0, .row insT (decL b (b.length / 8)))], 1⟩)
noncomputable def orc_dec : Orc := ⟨sh_dec, [(4, insT)], [2, 3, 4], [], fun d => ckP (I_dec (v_dec d)) (G_dec (v_dec d))⟩
noncomputable def LT_dec : LT := oneL p_dec orc_dec (noL)
noncomputable def T_dec : Bys × Int × Int × Slots → Tree (A_dec ⊕ (Ex × St)) := fun ⟨b, n, i, o⟩ => 
Tree.ite (decide (i < n)) (Tree.ite (decide ((0 : Int) ≤ IntKind.i64.wrap ((8 : Int) * i)) && decide (IntKind.i64.wrap ((8 : Int) * i) ≤ (↑(List.length b) : Int))) (Tree.ite (true && decide ((0 : Int) < (↑(List.take (List.length b - (IntKind.i64.wrap ((8 : Int) * i)).toNat) (List.drop (IntKind.i64.wrap ((8 : Int) * i)).toNat b)).length : Int))) (Tree.ite (true && decide ((1 : Int) < (↑(List.take (List.length b - (IntKind.i64.wrap ((8 : Int) * i)).toNat) (List.drop (IntKind.i64.wrap ((8 : Int) * i)).toNat b)).length : Int))) (Tree.ite (true && decide ((1 : Int) < (↑(List.take (List.length b - (IntKind.i64.wrap ((8 : Int) * i)).toNat) (List.drop (IntKind.i64.wrap ((8 : Int) * i)).toNat b)).length : Int))) (Tree.ite (true && decide ((4 : Int) ≤ (↑(List.take (List.length b - (IntKind.i64.wrap ((8 : Int) * i)).toNat) (List.drop (IntKind.i64.wrap ((8 : Int) * i)).toNat b)).length : Int))) (Tree.ite (decC ((List.take ((4 : Nat) - (2 : Nat)) (List.drop (2 : Nat) (List.take (List.length b - (IntKind.i64.wrap ((8 : Int) * i)).toNat) (List.drop (IntKind.i64.wrap ((8 : Int) * i)).toNat b)))).length ≤ (8 : Nat))) (Tree.ite (true && decide ((8 : Int) ≤ (↑(List.take (List.length b - (IntKind.i64.wrap ((8 : Int) * i)).toNat) (List.drop (IntKind.i64.wrap ((8 : Int) * i)).toNat b)).length : Int))) (Tree.ite (decC ((List.take ((8 : Nat) - (4 : Nat)) (List.drop (4 : Nat) (List.take (List.length b - (IntKind.i64.wrap ((8 : Int) * i)).toNat) (List.drop (IntKind.i64.wrap ((8 : Int) * i)).toNat b)))).length ≤ (8 : Nat))) (Tree.ite (bytesOk (List.length o + (1 : Nat)) (12 : Nat) && (List.length o + (1 : Nat)).ble (140737488355328 : Nat)) (Tree.ret (Sum.inl (b, n, IntKind.i64.wrap (i + (1 : Int)), o ++ [(((List.take (List.length b - (IntKind.i64.wrap ((8 : Int) * i)).toNat) (List.drop (IntKind.i64.wrap ((8 : Int) * i)).toNat b)).getD (0 : Nat) (BitVec.ofNat 8 0, ())).fst, ((List.take (List.length b - (IntKind.i64.wrap ((8 : Int) * i)).toNat) (List.drop (IntKind.i64.wrap ((8 : Int) * i)).toNat b)).getD (1 : Nat) (BitVec.ofNat 8 0, ())).fst &&& BitVec.ofInt (8 : Nat) (15 : Int), ((List.take (List.length b - (IntKind.i64.wrap ((8 : Int) * i)).toNat) (List.drop (IntKind.i64.wrap ((8 : Int) * i)).toNat b)).getD (1 : Nat) (BitVec.ofNat 8 0, ())).fst >>> (4 : Nat), IntKind.i16.wrap (↑(unL (List.take ((4 : Nat) - (2 : Nat)) (List.drop (2 : Nat) (List.take (List.length b - (IntKind.i64.wrap ((8 : Int) * i)).toNat) (List.drop (IntKind.i64.wrap ((8 : Int) * i)).toNat b))))).toNat : Int), IntKind.i32.wrap (↑(unL (List.take ((8 : Nat) - (4 : Nat)) (List.drop (4 : Nat) (List.take (List.length b - (IntKind.i64.wrap ((8 : Int) * i)).toNat) (List.drop (IntKind.i64.wrap ((8 : Int) * i)).toNat b))))).toNat : Int), ())]))) Tree.fail) Tree.fail) Tree.fail) Tree.fail) Tree.fail) Tree.fail) Tree.fail) Tree.fail) Tree.fail) (Tree.ret (Sum.inr (Ex.exit (0 : Nat), { env := [((4 : Nat), AV.p (Part.one (Cell.h (0 : Nat))))], hp := [((0 : Nat), Ob.row insT o)], nx := (1 : Nat) })))
theorem turn_dec : ∀ a : A_dec, (turnT 0 orc_dec (evalCode Tryz.prog (lk L_renc) Tryz.f84.ntmps 0 30 LT_dec (bodyAt c_dec p_dec) false (0 :: p_dec)) (sh_dec.enc (e_dec a))).run = ((T_dec a).bind fun s => .ret (turnV sh_dec e_dec s)).run := by
  rintro ⟨b, n, i, o⟩
  kernel_rfl

def μ_dec : A_dec → Nat := fun ⟨b, n, i, o⟩ => b.length / 8 - i.toNat
theorem step_dec : ∀ a : A_dec, I_dec a → (∃ a', (T_dec a).run = some (.inl a') ∧ I_dec a' ∧ μ_dec a' < μ_dec a ∧ (G_dec a').run = (G_dec a).run) ∨ (∃ y, (T_dec a).run = some (.inr y) ∧ (G_dec a).run = some y ∧ ((∃ id, y.1 = .exit id) ∨ y.1 = .ret)) := by
  rintro ⟨b, n, i, o⟩ ⟨rfl, h1, h2, h3, rfl⟩
  have hol := decL_len b i.toNat
  simp only [T_dec]
  by_cases hi : i < ((b.length / 8 : Nat) : Int)
  · left
    have hup := decL_up b i.toNat
    rw [← toNat_up h1] at hup
    have hl8 : 8 * i.toNat + 8 ≤ b.length := by omega
    have ht : (b.drop (8 * i).toNat).take (b.length - (8 * i).toNat) = b.drop (8 * i).toNat := List.take_of_length_le (by rw [List.length_drop]; omega)
    rw [goTd hi, wrap64 (n := 8 * i) (by omega) (by omega), goTa ⟨by omega, by omega⟩, wrap64 (n := i + 1) (by omega) (by omega), ht, show (8 * i).toNat = 8 * i.toNat by omega]
    have g1 : ∀ c : Int, c ≤ 1 → (true && decide (c < ((b.drop (8 * i.toNat)).length : Int))) = true := fun c hc => by
      rw [Bool.true_and, decide_eq_true_eq, List.length_drop]; omega
    have g2 : ∀ c : Int, c ≤ 8 → (true && decide (c ≤ ((b.drop (8 * i.toNat)).length : Int))) = true := fun c hc => by
      rw [Bool.true_and, decide_eq_true_eq, List.length_drop]; omega
    rw [goT (g1 0 (by omega)), goT (g1 1 (by omega)), goT (g1 1 (by omega)), goT (g2 4 (by omega)), goT (decP (Nat.le_trans (List.length_take_le _ _) (by decide))), goT (g2 8 (by omega)), goT (decP (Nat.le_trans (List.length_take_le _ _) (by decide))), goTb ⟨by omega, by omega⟩]
    refine ⟨_, rfl, ⟨rfl, by omega, by omega, h3, ?_⟩, by simp only [μ_dec]; omega, rfl⟩
    have hdg : ∀ j, (b.drop (8 * i.toNat)).getD j (BitVec.ofNat 8 0, ()) = b.getD (8 * i.toNat + j) (BitVec.ofNat 8 0, ()) := fun j => by
      rw [List.getD_eq_getElem?_getD, List.getElem?_drop, List.getD_eq_getElem?_getD]
    rw [hup, hdg, hdg, unL_num _ (Nat.le_trans (List.length_take_le _ _) (by decide)), unL_num _ (Nat.le_trans (List.length_take_le _ _) (by decide)), List.drop_drop, List.drop_drop, show 4 - 2 = 2 from rfl, show 8 - 4 = 4 from rfl, num2 (by omega), num4 (by omega)]
    rfl
  · right
    rw [goFd hi]
    refine ⟨_, rfl, ?_, .inl ⟨0, rfl⟩⟩
    simp only [G_dec, Tree.run]
    rw [show i.toNat = b.length / 8 by omega]
theorem lok_dec : LOk Tryz.prog (lk L_renc) Tryz.f84.ntmps 0 30 LT_dec c_dec := lok_view (noL_ok2 _ _ _ _ _ _ _) (by kernel_rfl) e_dec (by rintro ⟨⟨b, ⟨⟩, n, i, ⟨⟩⟩, ⟨o, ⟨⟩⟩⟩; exact ⟨(b, n, i, o), rfl⟩) T_dec turn_dec I_dec G_dec (by rintro ⟨b, n, i, o⟩; rfl) μ_dec step_dec
def ea_dec : Bys → denAs [.c (.d bytesT)] := fun b => (b, ())
def eo_dec : Bys → denObs [] := fun b => ()
noncomputable def E_dec : Bys → Tree (AV × List Ob) := fun b => 
Tree.ite ((↑(List.length b) : Int).tmod (8 : Int) != (0 : Int)) (Tree.ret (AV.t [Part.one (Cell.h (0 : Nat)), Part.one (Cell.v (Value.int IntKind.i64 (18 : Int)))], [Ob.row insT []])) (Tree.ite (decC (IntKind.i64.wrap ((↑(List.length b) : Int).tdiv (8 : Int)) = (↑(List.length b / (8 : Nat)) : Int) ∧ (0 : Int) ≤ (0 : Int) ∧ (0 : Int) ≤ IntKind.i64.wrap ((↑(List.length b) : Int).tdiv (8 : Int)) ∧ List.length b ≤ (1000000 : Nat) ∧ [] = decL b (0 : Nat))) (Tree.ret (AV.t [Part.one (Cell.h (0 : Nat)), Part.one (Cell.v (Value.int IntKind.i64 (0 : Int)))], [Ob.row insT (decL b (List.length b / (8 : Nat)))])) Tree.fail)
noncomputable def F_dec : denAs [.c (.d bytesT)] → denObs [] → Tree (AV × List Ob) := fun x y => match x, y with
  | (b, ()), () => ckP (b.length ≤ 1000000) (.ret (.t [.one (.h 0), .one (.v (.int .i64 (decE b)))], [Ob.row insT (decS b)]))
theorem ev_dec : ∀ a, (evalFnL Tryz.prog (lk L_renc) 30 LT_dec Tryz.f84 c_dec [(0, insT)] (encAs [.c (.d bytesT)] (ea_dec a)) (encOs [] (eo_dec a))).run = (E_dec a).run := by
  rintro b
  kernel_rfl
theorem fe_dec : ∀ a y, (F_dec (ea_dec a) (eo_dec a)).run = some y → (E_dec a).run = some y := by
  rintro b y h
  obtain ⟨h1, h⟩ := ckP_run h
  rw [← h]
  change b.length ≤ 1000000 at h1
  dsimp only [E_dec]
  change _ = (Tree.ret (AV.t [.one (.h 0), .one (.v (.int .i64 (decE b)))], [Ob.row insT (decS b)])).run
  have em : (b.length : Int).tmod 8 = ((b.length % 8 : Nat) : Int) := rfl
  have ed : (b.length : Int).tdiv 8 = ((b.length / 8 : Nat) : Int) := rfl
  by_cases hm : b.length % 8 = 0
  · rw [show decE b = 0 from if_pos hm, show decS b = decL b (b.length / 8) from if_pos hm]
    refine (goFne (by rw [em, hm]; rfl)).trans ?_
    refine (goT (decP ⟨?_, Int.le_refl 0, ?_, h1, rfl⟩)).trans rfl
    · rw [ed, wrap64 (by omega) (by omega)]
    · rw [ed, wrap64 (by omega) (by omega)]; omega
  · rw [show decE b = 18 from if_neg hm, show decS b = [] from if_neg hm]
    exact goTne (by rw [em]; omega)
theorem ok_dec : SummOk Kn Tryz.prog 84 (sumT [.dp bytesT] false [.c (.d bytesT)] [] F_dec) := sumT_view tok_renc Tryz.checked.mixed Tryz.func84 (by kernel_rfl) (by rfl) 30 [(0, insT)] ea_dec eo_dec
  (by rintro ⟨b, ⟨⟩⟩ ⟨⟩; exact ⟨b, rfl, rfl⟩) LT_dec 0 (by rintro ⟨⟩; rfl) lok_dec E_dec ev_dec fe_dec
noncomputable def L_dec : List (Nat × Summ) := (84, (sumT [.dp bytesT] false [.c (.d bytesT)] [] F_dec)) :: L_renc
theorem tok_dec : TOk Kn Tryz.prog (lk L_dec) := lk_cons ok_dec tok_renc

noncomputable abbrev c_rdec : Code := Tryz.f51.body.getD .skip
def p_rdec : List Nat := [0, 1, 0, 1, 1, 1]
def sh_rdec : Shape := ⟨[(0, .c (.d bytesT)), (4, .c (.h 0)), (5, .c (.i .i64))], [.row insT]⟩
@[reducible] def A_rdec : Type := Bys × Int × Slots
def e_rdec : A_rdec → sh_rdec.den := fun ⟨b, i, o⟩ => ((b, (), i, ()), (o, ()))
def v_rdec : sh_rdec.den → A_rdec := fun d => match d with
  | ((b, (), i, ()), (o, ())) => (b, i, o)
def I_rdec : A_rdec → Prop := fun ⟨b, i, o⟩ => i = 8 * o.length ∧ 8 * o.length ≤ b.length ∧ b.length % 8 = 0 ∧ b.length ≤ 1000000 ∧ o = decL b o.length
noncomputable def G_rdec : A_rdec → Tree (Ex × St) := fun ⟨b, i, o⟩ => .ret (.exit 0, ⟨[(4, .p (.one (.h 0)))], [(0, .row insT (decL b (b.length / 8)))], 1⟩)
noncomputable def orc_rdec : Orc := ⟨sh_rdec, [(4, insT)], [2, 3, 4], [], fun d => ckP (I_rdec (v_rdec d)) (G_rdec (v_rdec d))⟩
noncomputable def LT_rdec : LT := oneL p_rdec orc_rdec (noL)
noncomputable def T_rdec : Bys × Int × Slots → Tree (A_rdec ⊕ (Ex × St)) := fun ⟨b, i, o⟩ => 
Tree.ite (decide (i < (↑(List.length b) : Int))) (Tree.ite (decide ((0 : Int) ≤ i) && decide (i < (↑(List.length b) : Int))) (Tree.ite (decide ((0 : Int) ≤ IntKind.i64.wrap (i + (1 : Int))) && decide (IntKind.i64.wrap (i + (1 : Int)) < (↑(List.length b) : Int))) (Tree.ite (decide ((0 : Int) ≤ IntKind.i64.wrap (i + (1 : Int))) && decide (IntKind.i64.wrap (i + (1 : Int)) < (↑(List.length b) : Int))) (Tree.ite (decide ((0 : Int) ≤ IntKind.i64.wrap (i + (2 : Int))) && decide (IntKind.i64.wrap (i + (2 : Int)) < (↑(List.length b) : Int))) (Tree.ite (decide ((0 : Int) ≤ IntKind.i64.wrap (i + (3 : Int))) && decide (IntKind.i64.wrap (i + (3 : Int)) < (↑(List.length b) : Int))) (Tree.ite (decide ((0 : Int) ≤ IntKind.i64.wrap (IntKind.i64.wrap (i + (4 : Int)) + (3 : Int))) && decide (IntKind.i64.wrap (IntKind.i64.wrap (i + (4 : Int)) + (3 : Int)) < (↑(List.length b) : Int))) (Tree.ite (decide ((0 : Int) ≤ IntKind.i64.wrap (IntKind.i64.wrap (i + (4 : Int)) + (2 : Int))) && decide (IntKind.i64.wrap (IntKind.i64.wrap (i + (4 : Int)) + (2 : Int)) < (↑(List.length b) : Int))) (Tree.ite (decide ((0 : Int) ≤ IntKind.i64.wrap (IntKind.i64.wrap (i + (4 : Int)) + (1 : Int))) && decide (IntKind.i64.wrap (IntKind.i64.wrap (i + (4 : Int)) + (1 : Int)) < (↑(List.length b) : Int))) (Tree.ite (decide ((0 : Int) ≤ IntKind.i64.wrap (IntKind.i64.wrap (i + (4 : Int)) + (0 : Int))) && decide (IntKind.i64.wrap (IntKind.i64.wrap (i + (4 : Int)) + (0 : Int)) < (↑(List.length b) : Int))) (Tree.ite (bytesOk (List.length o + (1 : Nat)) (12 : Nat) && (List.length o + (1 : Nat)).ble (140737488355328 : Nat)) (Tree.ret (Sum.inl (b, IntKind.i64.wrap (i + (8 : Int)), o ++ [((List.getD b i.toNat (BitVec.ofNat 8 0, ())).fst, (List.getD b (IntKind.i64.wrap (i + (1 : Int))).toNat (BitVec.ofNat 8 0, ())).fst % BitVec.ofInt (8 : Nat) (16 : Int), (List.getD b (IntKind.i64.wrap (i + (1 : Int))).toNat (BitVec.ofNat 8 0, ())).fst / BitVec.ofInt (8 : Nat) (16 : Int), (BitVec.setWidth (16 : Nat) (List.getD b (IntKind.i64.wrap (i + (2 : Int))).toNat (BitVec.ofNat 8 0, ())).fst + BitVec.ofInt (16 : Nat) (256 : Int) * BitVec.setWidth (16 : Nat) (List.getD b (IntKind.i64.wrap (i + (3 : Int))).toNat (BitVec.ofNat 8 0, ())).fst).toInt, (BitVec.ofInt (32 : Nat) (256 : Int) * (BitVec.ofInt (32 : Nat) (256 : Int) * (BitVec.ofInt (32 : Nat) (256 : Int) * (BitVec.ofInt (32 : Nat) (256 : Int) * BitVec.ofInt (32 : Nat) (0 : Int) + BitVec.setWidth (32 : Nat) (List.getD b (IntKind.i64.wrap (IntKind.i64.wrap (i + (4 : Int)) + (3 : Int))).toNat (BitVec.ofNat 8 0, ())).fst) + BitVec.setWidth (32 : Nat) (List.getD b (IntKind.i64.wrap (IntKind.i64.wrap (i + (4 : Int)) + (2 : Int))).toNat (BitVec.ofNat 8 0, ())).fst) + BitVec.setWidth (32 : Nat) (List.getD b (IntKind.i64.wrap (IntKind.i64.wrap (i + (4 : Int)) + (1 : Int))).toNat (BitVec.ofNat 8 0, ())).fst) + BitVec.setWidth (32 : Nat) (List.getD b (IntKind.i64.wrap (IntKind.i64.wrap (i + (4 : Int)) + (0 : Int))).toNat (BitVec.ofNat 8 0, ())).fst).toInt, ())]))) Tree.fail) Tree.fail) Tree.fail) Tree.fail) Tree.fail) Tree.fail) Tree.fail) Tree.fail) Tree.fail) Tree.fail) (Tree.ret (Sum.inr (Ex.exit (0 : Nat), { env := [((4 : Nat), AV.p (Part.one (Cell.h (0 : Nat))))], hp := [((0 : Nat), Ob.row insT o)], nx := (1 : Nat) })))
theorem turn_rdec : ∀ a : A_rdec, (turnT 0 orc_rdec (evalCode Tryz.prog (lk L_dec) Tryz.f51.ntmps 0 30 LT_rdec (bodyAt c_rdec p_rdec) false (0 :: p_rdec)) (sh_rdec.enc (e_rdec a))).run = ((T_rdec a).bind fun s => .ret (turnV sh_rdec e_rdec s)).run := by
  rintro ⟨b, i, o⟩
  kernel_rfl

def μ_rdec : A_rdec → Nat := fun ⟨b, i, o⟩ => b.length - i.toNat
theorem step_rdec : ∀ a : A_rdec, I_rdec a → (∃ a', (T_rdec a).run = some (.inl a') ∧ I_rdec a' ∧ μ_rdec a' < μ_rdec a ∧ (G_rdec a').run = (G_rdec a).run) ∨ (∃ y, (T_rdec a).run = some (.inr y) ∧ (G_rdec a).run = some y ∧ ((∃ id, y.1 = .exit id) ∨ y.1 = .ret)) := by
  rintro ⟨b, i, o⟩ ⟨h1, h2, h3, h4, h5⟩
  subst h1
  simp only [T_rdec]
  by_cases hi : 8 * (o.length : Int) < b.length
  · left
    have hl8 : 8 * o.length + 8 ≤ b.length := by omega
    rw [goTd hi, goTa ⟨by omega, hi⟩]
    rw [wrap64 (n := 8 * (o.length : Int) + 1) (by omega) (by omega), wrap64 (n := 8 * (o.length : Int) + 2) (by omega) (by omega), wrap64 (n := 8 * (o.length : Int) + 3) (by omega) (by omega), wrap64 (n := 8 * (o.length : Int) + 4) (by omega) (by omega),
      wrap64 (n := 8 * (o.length : Int) + 4 + 3) (by omega) (by omega), wrap64 (n := 8 * (o.length : Int) + 4 + 2) (by omega) (by omega), wrap64 (n := 8 * (o.length : Int) + 4 + 1) (by omega) (by omega), wrap64 (n := 8 * (o.length : Int) + 4 + 0) (by omega) (by omega), wrap64 (n := 8 * (o.length : Int) + 8) (by omega) (by omega)]
    iterate 8 rw [goTa ⟨by omega, by omega⟩]
    rw [goTb ⟨by omega, by omega⟩]
    refine ⟨_, rfl, ⟨by simp only [List.length_append, List.length_cons, List.length_nil]; omega, by simp only [List.length_append, List.length_cons, List.length_nil]; omega, h3, h4, ?_⟩, by simp only [μ_rdec]; omega, rfl⟩
    rw [List.length_append, List.length_cons, List.length_nil, Nat.zero_add, decL_up, ← h5, dec16, dec32, (regs16 _).1, (regs16 _).2, show (8 * (o.length : Int)).toNat = 8 * o.length by omega, show (8 * (o.length : Int) + 1).toNat = 8 * o.length + 1 by omega, show (8 * (o.length : Int) + 2).toNat = 8 * o.length + 2 by omega,
      show (8 * (o.length : Int) + 3).toNat = 8 * o.length + 3 by omega, show (8 * (o.length : Int) + 4 + 0).toNat = 8 * o.length + 4 by omega, show (8 * (o.length : Int) + 4 + 1).toNat = 8 * o.length + 5 by omega, show (8 * (o.length : Int) + 4 + 2).toNat = 8 * o.length + 6 by omega, show (8 * (o.length : Int) + 4 + 3).toNat = 8 * o.length + 7 by omega]
    rfl
  · right
    rw [goFd hi]
    refine ⟨_, rfl, ?_, .inl ⟨0, rfl⟩⟩
    have e : b.length / 8 = o.length := by omega
    simp only [G_rdec, Tree.run]
    rw [e, ← h5]
theorem lok_rdec : LOk Tryz.prog (lk L_dec) Tryz.f51.ntmps 0 30 LT_rdec c_rdec := lok_view (noL_ok2 _ _ _ _ _ _ _) (by kernel_rfl) e_rdec (by rintro ⟨⟨b, ⟨⟩, i, ⟨⟩⟩, ⟨o, ⟨⟩⟩⟩; exact ⟨(b, i, o), rfl⟩) T_rdec turn_rdec I_rdec G_rdec (by rintro ⟨b, i, o⟩; rfl) μ_rdec step_rdec
def ea_rdec : Bys → denAs [.c (.d bytesT)] := fun b => (b, ())
def eo_rdec : Bys → denObs [] := fun b => ()
noncomputable def E_rdec : Bys → Tree (AV × List Ob) := fun b => 
Tree.ite ((↑(List.length b) : Int).tmod (8 : Int) != (0 : Int)) (Tree.ret (AV.t [Part.one (Cell.h (0 : Nat)), Part.one (Cell.v (Value.int IntKind.i64 (18 : Int)))], [Ob.row insT []])) (Tree.ite (decC ((0 : Int) = (0 : Int) ∧ (0 : Nat) ≤ List.length b ∧ List.length b % (8 : Nat) = (0 : Nat) ∧ List.length b ≤ (1000000 : Nat) ∧ [] = decL b (0 : Nat))) (Tree.ret (AV.t [Part.one (Cell.h (0 : Nat)), Part.one (Cell.v (Value.int IntKind.i64 (0 : Int)))], [Ob.row insT (decL b (List.length b / (8 : Nat)))])) Tree.fail)
noncomputable def F_rdec : denAs [.c (.d bytesT)] → denObs [] → Tree (AV × List Ob) := fun x y => match x, y with
  | (b, ()), () => ckP (b.length ≤ 1000000) (.ret (.t [.one (.h 0), .one (.v (.int .i64 (decE b)))], [Ob.row insT (decS b)]))
theorem ev_rdec : ∀ a, (evalFnL Tryz.prog (lk L_dec) 30 LT_rdec Tryz.f51 c_rdec [(0, insT)] (encAs [.c (.d bytesT)] (ea_rdec a)) (encOs [] (eo_rdec a))).run = (E_rdec a).run := by
  rintro b
  kernel_rfl
theorem fe_rdec : ∀ a y, (F_rdec (ea_rdec a) (eo_rdec a)).run = some y → (E_rdec a).run = some y := by
  rintro b y h
  obtain ⟨h1, h⟩ := ckP_run h
  rw [← h]
  change b.length ≤ 1000000 at h1
  dsimp only [E_rdec]
  change _ = (Tree.ret (AV.t [.one (.h 0), .one (.v (.int .i64 (decE b)))], [Ob.row insT (decS b)])).run
  have em : (b.length : Int).tmod 8 = ((b.length % 8 : Nat) : Int) := rfl
  have ed : (b.length : Int).tdiv 8 = ((b.length / 8 : Nat) : Int) := rfl
  by_cases hm : b.length % 8 = 0
  · rw [show decE b = 0 from if_pos hm, show decS b = decL b (b.length / 8) from if_pos hm]
    refine (goFne (by rw [em, hm]; rfl)).trans ?_
    exact (goT (decP ⟨rfl, Nat.zero_le _, hm, h1, rfl⟩)).trans rfl
  · rw [show decE b = 18 from if_neg hm, show decS b = [] from if_neg hm]
    exact goTne (by rw [em]; omega)
theorem ok_rdec : SummOk Kn Tryz.prog 51 (sumT [.dp bytesT] false [.c (.d bytesT)] [] F_rdec) := sumT_view tok_dec Tryz.checked.mixed Tryz.func51 (by kernel_rfl) (by rfl) 30 [(0, insT)] ea_rdec eo_rdec
  (by rintro ⟨b, ⟨⟩⟩ ⟨⟩; exact ⟨b, rfl, rfl⟩) LT_rdec 0 (by rintro ⟨⟩; rfl) lok_rdec E_rdec ev_rdec fe_rdec
noncomputable def L_rdec : List (Nat × Summ) := (51, (sumT [.dp bytesT] false [.c (.d bytesT)] [] F_rdec)) :: L_dec
theorem tok_rdec : TOk Kn Tryz.prog (lk L_rdec) := lk_cons ok_rdec tok_dec

end Go.Proofs.YtdkgeoadeljcpaaGreat
