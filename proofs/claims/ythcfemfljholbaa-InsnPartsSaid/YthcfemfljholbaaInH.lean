/-
  The contracts of what the laws of instructions ask (written by our own gen_inh.py).
-/
import Derived.Test.YthcfemfljholbaaInG
namespace Go.Proofs.Ythcfemfljholbaa
open Go Go.Sy Go.Sz Go.In Go.Proofs.Ythcfemfljholbaa
set_option linter.unusedVariables false
set_option linter.unusedSimpArgs false
set_option linter.constructorNameAsVariable false
set_option maxRecDepth 100000

noncomputable abbrev c_insns : Code := Try.f23.body.getD .skip
def p_insns : List Nat := [0, 1, 0, 1, 1]
def sh_insns : Shape := ⟨[(0, .c (.d insT)), (1, .c (.d insT)), (5, .c (.i .i64))], []⟩
@[reducible] def A_insns : Type := Slots × Slots × Int
def e_insns : A_insns → sh_insns.den := fun ⟨a, b, i⟩ => ((a, b, i, ()), ())
def v_insns : sh_insns.den → A_insns := fun d => match d with
  | ((a, b, i, ()), ()) => (a, b, i)
def I_insns : A_insns → Prop := fun ⟨a, b, i⟩ => 0 ≤ i ∧ a.length = b.length ∧ a.length ≤ 1000000 ∧ ∀ j : Nat, (j : Int) < i → a.getD j noIns = b.getD j noIns
noncomputable def G_insns : A_insns → Tree (Ex × St) := fun ⟨a, b, i⟩ => .ite (sameI a b) (.ret (.exit 0, ⟨[], [], 0⟩)) (.ret (.ret, ⟨[(4, AV.c (.v (.bool false)))], [], 0⟩))
noncomputable def orc_insns : Orc := ⟨sh_insns, [], [4], [], fun d => ckP (I_insns (v_insns d)) (G_insns (v_insns d))⟩
noncomputable def LT_insns : LT := oneL p_insns orc_insns (noL)
noncomputable def T_insns : Slots × Slots × Int → Tree (A_insns ⊕ (Ex × St)) := fun ⟨a, b, i⟩ => 
Tree.ite (decide (i < (↑(List.length a) : Int))) (Tree.ite (decide ((0 : Int) ≤ i) && decide (i < (↑(List.length a) : Int))) (Tree.ite (decide ((0 : Int) ≤ i) && decide (i < (↑(List.length b) : Int))) (Tree.ite (!((List.getD a i.toNat noIns).fst == (List.getD b i.toNat noIns).fst && ((List.getD a i.toNat noIns).snd.fst == (List.getD b i.toNat noIns).snd.fst && ((List.getD a i.toNat noIns).snd.snd.fst == (List.getD b i.toNat noIns).snd.snd.fst && ((List.getD a i.toNat noIns).snd.snd.snd.fst == (List.getD b i.toNat noIns).snd.snd.snd.fst && ((List.getD a i.toNat noIns).snd.snd.snd.snd.fst == (List.getD b i.toNat noIns).snd.snd.snd.snd.fst && true)))))) (Tree.ret (Sum.inr (Ex.ret, { env := [((4 : Nat), AV.p (Part.one (Cell.v (Value.bool false))))], hp := [], nx := (0 : Nat) }))) (Tree.ret (Sum.inl (a, b, IntKind.i64.wrap (i + (1 : Int)))))) Tree.fail) Tree.fail) (Tree.ret (Sum.inr (Ex.exit (0 : Nat), { env := [], hp := [], nx := (0 : Nat) })))
theorem turn_insns : ∀ a : A_insns, (turnT 0 orc_insns (evalCode Try.prog (lk L_rdec) Try.f23.ntmps 0 20 LT_insns (bodyAt c_insns p_insns) false (0 :: p_insns)) (sh_insns.enc (e_insns a))).run = ((T_insns a).bind fun s => .ret (turnV sh_insns e_insns s)).run := by
  rintro ⟨a, b, i⟩
  kernel_rfl

def μ_insns : A_insns → Nat := fun ⟨a, b, i⟩ => a.length - i.toNat
theorem step_insns : ∀ a : A_insns, I_insns a → (∃ a', (T_insns a).run = some (.inl a') ∧ I_insns a' ∧ μ_insns a' < μ_insns a ∧ (G_insns a').run = (G_insns a).run) ∨ (∃ y, (T_insns a).run = some (.inr y) ∧ (G_insns a).run = some y ∧ ((∃ id, y.1 = .exit id) ∨ y.1 = .ret)) := by
  rintro ⟨a, b, i⟩ ⟨h1, h2, h3, h4⟩
  simp only [T_insns]
  by_cases hi : i < a.length
  · rw [goTd hi, goTa ⟨h1, hi⟩, goTa ⟨h1, by omega⟩, wrap64 (n := i + 1) (by omega) (by omega), beqI]
    by_cases he : a.getD i.toNat noIns = b.getD i.toNat noIns
    · left
      rw [goFN (decide_eq_true he)]
      exact ⟨_, rfl, ⟨by omega, h2, h3, all_succ h1 h4 he⟩, by simp only [μ_insns]; omega, rfl⟩
    · right
      rw [goTN (decide_eq_false he)]
      refine ⟨_, rfl, ?_, .inr rfl⟩
      simp only [G_insns]
      rw [goF (decI_no _ he)]; rfl
  · right
    rw [goFd hi]
    refine ⟨_, rfl, ?_, .inl ⟨0, rfl⟩⟩
    simp only [G_insns]
    rw [goT (decI h2 fun j hj => h4 j (by omega))]; rfl
theorem lok_insns : LOk Try.prog (lk L_rdec) Try.f23.ntmps 0 20 LT_insns c_insns := lok_view (noL_ok2 _ _ _ _ _ _ _) (by kernel_rfl) e_insns (by rintro ⟨⟨a, b, i, ⟨⟩⟩, ⟨⟩⟩; exact ⟨(a, b, i), rfl⟩) T_insns turn_insns I_insns G_insns (by rintro ⟨a, b, i⟩; rfl) μ_insns step_insns
def ea_insns : Slots × Slots → denAs [.c (.d insT), .c (.d insT)] := fun ⟨a, b⟩ => (a, b, ())
def eo_insns : Slots × Slots → denObs [] := fun ⟨a, b⟩ => ()
noncomputable def E_insns : Slots × Slots → Tree (AV × List Ob) := fun ⟨a, b⟩ => 
Tree.ite ((↑(List.length a) : Int) != (↑(List.length b) : Int)) (Tree.ret (AV.p (Part.one (Cell.v (Value.bool false))), [])) (Tree.ite (decC ((0 : Int) ≤ (0 : Int) ∧ List.length a = List.length b ∧ List.length a ≤ (1000000 : Nat) ∧ ∀ (j : Nat), (↑j : Int) < (0 : Int) → List.getD a j noIns = List.getD b j noIns)) (Tree.ite (sameI a b) (Tree.ret (AV.p (Part.one (Cell.v (Value.bool true))), [])) (Tree.ret (AV.p (Part.one (Cell.v (Value.bool false))), []))) Tree.fail)
noncomputable def F_insns : denAs [.c (.d insT), .c (.d insT)] → denObs [] → Tree (AV × List Ob) := fun x y => match x, y with
  | (a, b, ()), () => ckP (a.length ≤ 1000000 ∧ b.length ≤ 1000000) (.ret (AV.b (sameI a b), []))
theorem ev_insns : ∀ a, (evalFnL Try.prog (lk L_rdec) 20 LT_insns Try.f23 c_insns [] (encAs [.c (.d insT), .c (.d insT)] (ea_insns a)) (encOs [] (eo_insns a))).run = (E_insns a).run := by
  rintro ⟨a, b⟩
  kernel_rfl
theorem fe_insns : ∀ a y, (F_insns (ea_insns a) (eo_insns a)).run = some y → (E_insns a).run = some y := by
  rintro ⟨a, b⟩ y h
  obtain ⟨⟨h1, h2⟩, h⟩ := ckP_run h
  rw [← h]
  dsimp only [E_insns]
  change _ = some (AV.b (sameI a b), [])
  by_cases hl : a.length = b.length
  · refine (goFne (by omega)).trans ((goT (decP ⟨Int.le_refl 0, hl, h1, fun j hj => by omega⟩)).trans ?_)
    cases sameI a b <;> rfl
  · refine (goTne (by omega)).trans ?_
    rw [show sameI a b = false from decide_eq_false fun e => hl (by rw [e])]; rfl
theorem ok_insns : SummOk Kn Try.prog 23 (sumT [.dp insT, .dp insT] false [.c (.d insT), .c (.d insT)] [] F_insns) := sumT_view tok_rdec Try.checked.mixed Try.func23 (by kernel_rfl) (by rfl) 20 [] ea_insns eo_insns
  (by rintro ⟨a, b, ⟨⟩⟩ ⟨⟩; exact ⟨(a, b), rfl, rfl⟩) LT_insns 0 (by rintro ⟨⟩; rfl) lok_insns E_insns ev_insns fe_insns
noncomputable def L_insns : List (Nat × Summ) := (23, (sumT [.dp insT, .dp insT] false [.c (.d insT), .c (.d insT)] [] F_insns)) :: L_rdec
theorem tok_insns : TOk Kn Try.prog (lk L_insns) := lk_cons ok_insns tok_rdec

noncomputable abbrev c_parts : Code := Try.f16.body.getD .skip
def p_parts : List Nat := [0, 1, 0, 1, 1]
def sh_parts : Shape := ⟨[(0, .c (.d partsT)), (1, .c (.d partsT)), (5, .c (.i .i64))], []⟩
@[reducible] def A_parts : Type := Parts × Parts × Int
def e_parts : A_parts → sh_parts.den := fun ⟨a, b, i⟩ => ((a, b, i, ()), ())
def v_parts : sh_parts.den → A_parts := fun d => match d with
  | ((a, b, i, ()), ()) => (a, b, i)
def I_parts : A_parts → Prop := fun ⟨a, b, i⟩ => 0 ≤ i ∧ a.length = b.length ∧ a.length ≤ 1000000 ∧ ∀ j : Nat, (j : Int) < i → a.getD j (0, 0, ()) = b.getD j (0, 0, ())
noncomputable def G_parts : A_parts → Tree (Ex × St) := fun ⟨a, b, i⟩ => .ite (sameP a b) (.ret (.exit 0, ⟨[], [], 0⟩)) (.ret (.ret, ⟨[(4, AV.c (.v (.bool false)))], [], 0⟩))
noncomputable def orc_parts : Orc := ⟨sh_parts, [], [4], [], fun d => ckP (I_parts (v_parts d)) (G_parts (v_parts d))⟩
noncomputable def LT_parts : LT := oneL p_parts orc_parts (noL)
noncomputable def T_parts : Parts × Parts × Int → Tree (A_parts ⊕ (Ex × St)) := fun ⟨a, b, i⟩ => 
Tree.ite (decide (i < (↑(List.length a) : Int))) (Tree.ite (decide ((0 : Int) ≤ i) && decide (i < (↑(List.length a) : Int))) (Tree.ite (decide ((0 : Int) ≤ i) && decide (i < (↑(List.length b) : Int))) (Tree.ite (!((List.getD a i.toNat ((0 : Int), (0 : Int), ())).fst == (List.getD b i.toNat ((0 : Int), (0 : Int), ())).fst && ((List.getD a i.toNat ((0 : Int), (0 : Int), ())).snd.fst == (List.getD b i.toNat ((0 : Int), (0 : Int), ())).snd.fst && true))) (Tree.ret (Sum.inr (Ex.ret, { env := [((4 : Nat), AV.p (Part.one (Cell.v (Value.bool false))))], hp := [], nx := (0 : Nat) }))) (Tree.ret (Sum.inl (a, b, IntKind.i64.wrap (i + (1 : Int)))))) Tree.fail) Tree.fail) (Tree.ret (Sum.inr (Ex.exit (0 : Nat), { env := [], hp := [], nx := (0 : Nat) })))
theorem turn_parts : ∀ a : A_parts, (turnT 0 orc_parts (evalCode Try.prog (lk L_insns) Try.f16.ntmps 0 20 LT_parts (bodyAt c_parts p_parts) false (0 :: p_parts)) (sh_parts.enc (e_parts a))).run = ((T_parts a).bind fun s => .ret (turnV sh_parts e_parts s)).run := by
  rintro ⟨a, b, i⟩
  kernel_rfl

def μ_parts : A_parts → Nat := fun ⟨a, b, i⟩ => a.length - i.toNat
theorem step_parts : ∀ a : A_parts, I_parts a → (∃ a', (T_parts a).run = some (.inl a') ∧ I_parts a' ∧ μ_parts a' < μ_parts a ∧ (G_parts a').run = (G_parts a).run) ∨ (∃ y, (T_parts a).run = some (.inr y) ∧ (G_parts a).run = some y ∧ ((∃ id, y.1 = .exit id) ∨ y.1 = .ret)) := by
  rintro ⟨a, b, i⟩ ⟨h1, h2, h3, h4⟩
  simp only [T_parts]
  by_cases hi : i < a.length
  · rw [goTd hi, goTa ⟨h1, hi⟩, goTa ⟨h1, by omega⟩, wrap64 (n := i + 1) (by omega) (by omega), beqP]
    by_cases he : a.getD i.toNat (0, 0, ()) = b.getD i.toNat (0, 0, ())
    · left
      rw [goFN (decide_eq_true he)]
      exact ⟨_, rfl, ⟨by omega, h2, h3, all_succ h1 h4 he⟩, by simp only [μ_parts]; omega, rfl⟩
    · right
      rw [goTN (decide_eq_false he)]
      refine ⟨_, rfl, ?_, .inr rfl⟩
      simp only [G_parts]
      rw [goF (decPs_no _ he)]; rfl
  · right
    rw [goFd hi]
    refine ⟨_, rfl, ?_, .inl ⟨0, rfl⟩⟩
    simp only [G_parts]
    rw [goT (decPs h2 fun j hj => h4 j (by omega))]; rfl
theorem lok_parts : LOk Try.prog (lk L_insns) Try.f16.ntmps 0 20 LT_parts c_parts := lok_view (noL_ok2 _ _ _ _ _ _ _) (by kernel_rfl) e_parts (by rintro ⟨⟨a, b, i, ⟨⟩⟩, ⟨⟩⟩; exact ⟨(a, b, i), rfl⟩) T_parts turn_parts I_parts G_parts (by rintro ⟨a, b, i⟩; rfl) μ_parts step_parts
def ea_parts : Parts × Parts → denAs [.c (.d partsT), .c (.d partsT)] := fun ⟨a, b⟩ => (a, b, ())
def eo_parts : Parts × Parts → denObs [] := fun ⟨a, b⟩ => ()
noncomputable def E_parts : Parts × Parts → Tree (AV × List Ob) := fun ⟨a, b⟩ => 
Tree.ite ((↑(List.length a) : Int) != (↑(List.length b) : Int)) (Tree.ret (AV.p (Part.one (Cell.v (Value.bool false))), [])) (Tree.ite (decC ((0 : Int) ≤ (0 : Int) ∧ List.length a = List.length b ∧ List.length a ≤ (1000000 : Nat) ∧ ∀ (j : Nat), (↑j : Int) < (0 : Int) → List.getD a j ((0 : Int), (0 : Int), ()) = List.getD b j ((0 : Int), (0 : Int), ()))) (Tree.ite (sameP a b) (Tree.ret (AV.p (Part.one (Cell.v (Value.bool true))), [])) (Tree.ret (AV.p (Part.one (Cell.v (Value.bool false))), []))) Tree.fail)
noncomputable def F_parts : denAs [.c (.d partsT), .c (.d partsT)] → denObs [] → Tree (AV × List Ob) := fun x y => match x, y with
  | (a, b, ()), () => ckP (a.length ≤ 1000000 ∧ b.length ≤ 1000000) (.ret (AV.b (sameP a b), []))
theorem ev_parts : ∀ a, (evalFnL Try.prog (lk L_insns) 20 LT_parts Try.f16 c_parts [] (encAs [.c (.d partsT), .c (.d partsT)] (ea_parts a)) (encOs [] (eo_parts a))).run = (E_parts a).run := by
  rintro ⟨a, b⟩
  kernel_rfl
theorem fe_parts : ∀ a y, (F_parts (ea_parts a) (eo_parts a)).run = some y → (E_parts a).run = some y := by
  rintro ⟨a, b⟩ y h
  obtain ⟨⟨h1, h2⟩, h⟩ := ckP_run h
  rw [← h]
  dsimp only [E_parts]
  change _ = some (AV.b (sameP a b), [])
  by_cases hl : a.length = b.length
  · refine (goFne (by omega)).trans ((goT (decP ⟨Int.le_refl 0, hl, h1, fun j hj => by omega⟩)).trans ?_)
    cases sameP a b <;> rfl
  · refine (goTne (by omega)).trans ?_
    rw [show sameP a b = false from decide_eq_false fun e => hl (by rw [e])]; rfl
theorem ok_parts : SummOk Kn Try.prog 16 (sumT [.dp partsT, .dp partsT] false [.c (.d partsT), .c (.d partsT)] [] F_parts) := sumT_view tok_insns Try.checked.mixed Try.func16 (by kernel_rfl) (by rfl) 20 [] ea_parts eo_parts
  (by rintro ⟨a, b, ⟨⟩⟩ ⟨⟩; exact ⟨(a, b), rfl, rfl⟩) LT_parts 0 (by rintro ⟨⟩; rfl) lok_parts E_parts ev_parts fe_parts
noncomputable def L_parts : List (Nat × Summ) := (16, (sumT [.dp partsT, .dp partsT] false [.c (.d partsT), .c (.d partsT)] [] F_parts)) :: L_insns
theorem tok_parts : TOk Kn Try.prog (lk L_parts) := lk_cons ok_parts tok_insns

def ea_bytes : Bys × Bys → denAs [.c (.d bytesT), .c (.d bytesT)] := fun ⟨a, b⟩ => (a, b, ())
def eo_bytes : Bys × Bys → denObs [] := fun ⟨a, b⟩ => ()
noncomputable def E_bytes : Bys × Bys → Tree (AV × List Ob) := fun ⟨a, b⟩ => 
Tree.ret (AV.p (Part.one (Cell.v (Value.bool ((strOf a).toList == (strOf b).toList)))), [])
noncomputable def F_bytes : denAs [.c (.d bytesT), .c (.d bytesT)] → denObs [] → Tree (AV × List Ob) := fun x y => match x, y with
  | (a, b, ()), () => .ret (AV.b (sameB a b), [])
theorem ev_bytes : ∀ a, (evalFnL Try.prog (lk L_parts) 20 noL Try.f19 (Try.f19.body.getD .skip) [] (encAs [.c (.d bytesT), .c (.d bytesT)] (ea_bytes a)) (encOs [] (eo_bytes a))).run = (E_bytes a).run := by
  rintro ⟨a, b⟩
  kernel_rfl
theorem fe_bytes : ∀ a y, (F_bytes (ea_bytes a) (eo_bytes a)).run = some y → (E_bytes a).run = some y := by
  rintro ⟨a, b⟩ y h
  rw [← h]
  change (Tree.ret (AV.b ((strOf a).toList == (strOf b).toList), [])).run = some (AV.b (sameB a b), [])
  rw [strOf_beq]; rfl
theorem ok_bytes : SummOk Kn Try.prog 19 (sumT [.dp bytesT, .dp bytesT] false [.c (.d bytesT), .c (.d bytesT)] [] F_bytes) := sumT_view tok_parts Try.checked.mixed Try.func19 (by kernel_rfl) (by rfl) 20 [] ea_bytes eo_bytes
  (by rintro ⟨a, b, ⟨⟩⟩ ⟨⟩; exact ⟨(a, b), rfl, rfl⟩) noL 0 (by rintro ⟨⟩; rfl) (noL_ok _ _ _ _ _ _) E_bytes ev_bytes fe_bytes
noncomputable def L_bytes : List (Nat × Summ) := (19, (sumT [.dp bytesT, .dp bytesT] false [.c (.d bytesT), .c (.d bytesT)] [] F_bytes)) :: L_parts
theorem tok_bytes : TOk Kn Try.prog (lk L_bytes) := lk_cons ok_bytes tok_parts

def ea_known1 : Unit → denAs [] := fun _ => ()
def eo_known1 : Unit → denObs [] := fun _ => ()
noncomputable def E_known1 : Unit → Tree (AV × List Ob) := fun _ => 
Tree.ite (decC ((16 : Nat) ≤ (1000000 : Nat))) (Tree.ite (decC ((2 : Nat) ≤ (140737488355328 : Nat))) (Tree.ite (decC ((2 : Nat) ≤ (140737488355328 : Nat))) (Tree.ret (AV.p (Part.one (Cell.v (Value.bool true))), [])) Tree.fail) Tree.fail) Tree.fail
noncomputable def F_known1 : denAs [] → denObs [] → Tree (AV × List Ob) := fun x y => match x, y with
  | (), () => .ret (AV.b true, [])
theorem ev_known1 : ∀ a, (evalFnL Try.prog (lk L_bytes) 40 noL Try.f10 (Try.f10.body.getD .skip) [] (encAs [] (ea_known1 a)) (encOs [] (eo_known1 a))).run = (E_known1 a).run := by
  rintro ⟨⟩
  kernel_rfl
theorem fe_known1 : ∀ a y, (F_known1 (ea_known1 a) (eo_known1 a)).run = some y → (E_known1 a).run = some y := by
  rintro _ y h
  rw [← h]
  dsimp only [E_known1]
  exact (goT (decP (by decide))).trans ((goT (decP (by decide))).trans ((goT (decP (by decide))).trans rfl))
theorem ok_known1 : SummOk Kn Try.prog 10 (sumT [] false [] [] F_known1) := sumT_view tok_bytes Try.checked.mixed Try.func10 (by kernel_rfl) (by rfl) 40 [] ea_known1 eo_known1
  (by rintro ⟨⟩ ⟨⟩; exact ⟨(), rfl, rfl⟩) noL 0 (by rintro ⟨⟩; rfl) (noL_ok _ _ _ _ _ _) E_known1 ev_known1 fe_known1
noncomputable def L_known1 : List (Nat × Summ) := (10, (sumT [] false [] [] F_known1)) :: L_bytes
theorem tok_known1 : TOk Kn Try.prog (lk L_known1) := lk_cons ok_known1 tok_bytes

noncomputable def wideB (l : Slots) (k : Int) : Bool := !decide (k < 0) && (!decide ((l.length : Int) - 1 ≤ k) && (B_known (slotA l k.toNat).1 (slotA l k.toNat).2.1 (slotA l k.toNat).2.2.1 (slotA l k.toNat).2.2.2.1 (slotA l k.toNat).2.2.2.2.1 && ((slotA l k.toNat).1 == BitVec.ofInt 8 24 && (slotA l k.toNat).2.2.1 == BitVec.ofInt 8 0)))
noncomputable def wideT (l : Slots) (k : Int) : Tree (AV × List Ob) := .ite (wideB l k) (.ret (.t [.one (.w .u64 (wideV l k)), .one (.v (.bool true))], [])) (.ret (.t [.one (.w .u64 (BitVec.ofInt 64 0)), .one (.v (.bool false))], []))
/-- where a slot's operation goes to -/
def targetI (l : Slots) (k : Int) : Int := bif namesB (slotA l k.toNat) then callI l k else jumpI l k
noncomputable def targetB (l : Slots) (k : Int) : Bool := !decide (k < 0) && (!decide ((l.length : Int) ≤ k) && (B_known (slotA l k.toNat).1 (slotA l k.toNat).2.1 (slotA l k.toNat).2.2.1 (slotA l k.toNat).2.2.2.1 (slotA l k.toNat).2.2.2.2.1 && ((namesB (slotA l k.toNat) || jumpsB (slotA l k.toNat).1) && (!decide (targetI l k < 0) && !decide ((l.length : Int) ≤ targetI l k)))))
noncomputable def targetT (l : Slots) (k : Int) : Tree (AV × List Ob) := .ite (targetB l k) (.ret (.t [.one (.v (.int .i64 (targetI l k))), .one (.v (.bool true))], [])) (.ret (.t [.one (.v (.int .i64 0)), .one (.v (.bool false))], []))
def ea_wide : Slots × Int → denAs [.c (.d insT), .c (.i .i64)] := fun ⟨l, k⟩ => (l, k, ())
def eo_wide : Slots × Int → denObs [] := fun ⟨l, k⟩ => ()
noncomputable def E_wide : Slots × Int → Tree (AV × List Ob) := fun ⟨l, k⟩ => 
Tree.ite (!decide (k < (0 : Int))) (Tree.ite (!decide (IntKind.i64.wrap ((↑(List.length l) : Int) - (1 : Int)) ≤ k)) (Tree.ite (decide ((0 : Int) ≤ k) && decide (k < (↑(List.length l) : Int))) (Tree.ite (!!B_known (List.getD l k.toNat noIns).fst (List.getD l k.toNat noIns).snd.fst (List.getD l k.toNat noIns).snd.snd.fst (List.getD l k.toNat noIns).snd.snd.snd.fst (List.getD l k.toNat noIns).snd.snd.snd.snd.fst) (Tree.ite (decide ((0 : Int) ≤ k) && decide (k < (↑(List.length l) : Int))) (Tree.ite (!(List.getD l k.toNat noIns).fst != BitVec.ofInt (8 : Nat) (24 : Int)) (Tree.ite (decide ((0 : Int) ≤ k) && decide (k < (↑(List.length l) : Int))) (Tree.ite ((List.getD l k.toNat noIns).snd.snd.fst != BitVec.ofInt (8 : Nat) (0 : Int)) (Tree.ret (AV.t [Part.one (Cell.w IntKind.u64 (BitVec.ofInt (64 : Nat) (0 : Int))), Part.one (Cell.v (Value.bool false))], [])) (Tree.ite (decide ((0 : Int) ≤ k) && decide (k < (↑(List.length l) : Int))) (Tree.ite (decide ((0 : Int) ≤ IntKind.i64.wrap (k + (1 : Int))) && decide (IntKind.i64.wrap (k + (1 : Int)) < (↑(List.length l) : Int))) (Tree.ret (AV.t [Part.one (Cell.w IntKind.u64 (BitVec.setWidth (64 : Nat) (BitVec.ofInt (32 : Nat) (List.getD l k.toNat noIns).snd.snd.snd.snd.fst) ||| BitVec.setWidth (64 : Nat) (BitVec.ofInt (32 : Nat) (List.getD l (IntKind.i64.wrap (k + (1 : Int))).toNat noIns).snd.snd.snd.snd.fst) <<< (32 : Nat))), Part.one (Cell.v (Value.bool true))], [])) Tree.fail) Tree.fail)) Tree.fail) (Tree.ret (AV.t [Part.one (Cell.w IntKind.u64 (BitVec.ofInt (64 : Nat) (0 : Int))), Part.one (Cell.v (Value.bool false))], []))) Tree.fail) (Tree.ret (AV.t [Part.one (Cell.w IntKind.u64 (BitVec.ofInt (64 : Nat) (0 : Int))), Part.one (Cell.v (Value.bool false))], []))) Tree.fail) (Tree.ret (AV.t [Part.one (Cell.w IntKind.u64 (BitVec.ofInt (64 : Nat) (0 : Int))), Part.one (Cell.v (Value.bool false))], []))) (Tree.ret (AV.t [Part.one (Cell.w IntKind.u64 (BitVec.ofInt (64 : Nat) (0 : Int))), Part.one (Cell.v (Value.bool false))], []))
noncomputable def F_wide : denAs [.c (.d insT), .c (.i .i64)] → denObs [] → Tree (AV × List Ob) := fun x y => match x, y with
  | (l, k, ()), () => ckP (l.length ≤ 1000000) (wideT l k)
theorem ev_wide : ∀ a, (evalFnL Try.prog (lk L_known1) 20 noL Try.f11 (Try.f11.body.getD .skip) [] (encAs [.c (.d insT), .c (.i .i64)] (ea_wide a)) (encOs [] (eo_wide a))).run = (E_wide a).run := by
  rintro ⟨l, k⟩
  kernel_rfl
theorem fe_wide : ∀ a y, (F_wide (ea_wide a) (eo_wide a)).run = some y → (E_wide a).run = some y := by
  rintro ⟨l, k⟩ y h
  obtain ⟨h3, h⟩ := ckP_run h
  rw [← h]
  change l.length ≤ 1000000 at h3
  change _ = (wideT l k).run
  dsimp only [E_wide]
  unfold wideT wideB
  by_cases g1 : k < 0
  · refine (goFn g1).trans (Eq.trans ?_ (goF (by rw [decide_eq_true g1]; rfl)).symm); rfl
  refine (goTn g1).trans ?_
  rw [wrap64 (n := (l.length : Int) - 1) (by omega) (by omega), decide_eq_false g1]
  by_cases g2 : (l.length : Int) - 1 ≤ k
  · refine (goFn g2).trans (Eq.trans ?_ (goF (by rw [decide_eq_true g2]; rfl)).symm); rfl
  refine (goTn g2).trans ?_
  have eb : (decide (0 ≤ k) && decide (k < (l.length : Int))) = true := by rw [Bool.and_eq_true, decide_eq_true_eq, decide_eq_true_eq]; omega
  have eb2 : (decide (0 ≤ k + 1) && decide (k + 1 < (l.length : Int))) = true := by rw [Bool.and_eq_true, decide_eq_true_eq, decide_eq_true_eq]; omega
  rw [decide_eq_false g2, wrap64 (n := k + 1) (by omega) (by omega), eb, eb2]
  unfold wideV
  simp only [slotA, bne]
  generalize B_known (l.getD k.toNat noIns).1 (l.getD k.toNat noIns).2.1 (l.getD k.toNat noIns).2.2.1 (l.getD k.toNat noIns).2.2.2.1 (l.getD k.toNat noIns).2.2.2.2.1 = kn
  generalize ((l.getD k.toNat noIns).1 == BitVec.ofInt 8 24) = o
  generalize ((l.getD k.toNat noIns).2.2.1 == BitVec.ofInt 8 0) = s
  cases kn <;> cases o <;> cases s <;> rfl
theorem ok_wide : SummOk Kn Try.prog 11 (sumT [.dp insT, .any] false [.c (.d insT), .c (.i .i64)] [] F_wide) := sumT_view tok_known1 Try.checked.mixed Try.func11 (by kernel_rfl) (by rfl) 20 [] ea_wide eo_wide
  (by rintro ⟨l, k, ⟨⟩⟩ ⟨⟩; exact ⟨(l, k), rfl, rfl⟩) noL 0 (by rintro ⟨⟩; rfl) (noL_ok _ _ _ _ _ _) E_wide ev_wide fe_wide
noncomputable def L_wide : List (Nat × Summ) := (11, (sumT [.dp insT, .any] false [.c (.d insT), .c (.i .i64)] [] F_wide)) :: L_known1
theorem tok_wide : TOk Kn Try.prog (lk L_wide) := lk_cons ok_wide tok_known1

def ea_target : Slots × Int → denAs [.c (.d insT), .c (.i .i64)] := fun ⟨l, k⟩ => (l, k, ())
def eo_target : Slots × Int → denObs [] := fun ⟨l, k⟩ => ()
noncomputable def E_target : Slots × Int → Tree (AV × List Ob) := fun ⟨l, k⟩ => 
Tree.ite (!decide (k < (0 : Int))) (Tree.ite (!decide ((↑(List.length l) : Int) ≤ k)) (Tree.ite (decide ((0 : Int) ≤ k) && decide (k < (↑(List.length l) : Int))) (Tree.ite (!B_known (List.getD l k.toNat noIns).fst (List.getD l k.toNat noIns).snd.fst (List.getD l k.toNat noIns).snd.snd.fst (List.getD l k.toNat noIns).snd.snd.snd.fst (List.getD l k.toNat noIns).snd.snd.snd.snd.fst) (Tree.ret (AV.t [Part.one (Cell.v (Value.int IntKind.i64 (0 : Int))), Part.one (Cell.v (Value.bool false))], [])) (Tree.ite (decC ((0 : Int) ≤ k ∧ k < (↑(List.length l) : (ShA.c (ShC.i IntKind.i64)).den))) (Tree.ite (!namesB (slotA l k.toNat)) (Tree.ite (decC ((0 : Int) ≤ k ∧ k < (↑(List.length l) : (ShA.c (ShC.i IntKind.i64)).den))) (Tree.ite (!!jumpsB (slotA l k.toNat).fst) (Tree.ite (!decide (jumpI l k < (0 : Int))) (Tree.ite (decide ((↑(List.length l) : Int) ≤ jumpI l k)) (Tree.ret (AV.t [Part.one (Cell.v (Value.int IntKind.i64 (0 : Int))), Part.one (Cell.v (Value.bool false))], [])) (Tree.ret (AV.t [Part.one (Cell.v (Value.int IntKind.i64 (jumpI l k))), Part.one (Cell.v (Value.bool true))], []))) (Tree.ret (AV.t [Part.one (Cell.v (Value.int IntKind.i64 (0 : Int))), Part.one (Cell.v (Value.bool false))], []))) (Tree.ret (AV.t [Part.one (Cell.v (Value.int IntKind.i64 (0 : Int))), Part.one (Cell.v (Value.bool false))], []))) Tree.fail) (Tree.ite (!!namesB (slotA l k.toNat)) (Tree.ite (!decide (callI l k < (0 : Int))) (Tree.ite (decide ((↑(List.length l) : Int) ≤ callI l k)) (Tree.ret (AV.t [Part.one (Cell.v (Value.int IntKind.i64 (0 : Int))), Part.one (Cell.v (Value.bool false))], [])) (Tree.ret (AV.t [Part.one (Cell.v (Value.int IntKind.i64 (callI l k))), Part.one (Cell.v (Value.bool true))], []))) (Tree.ret (AV.t [Part.one (Cell.v (Value.int IntKind.i64 (0 : Int))), Part.one (Cell.v (Value.bool false))], []))) (Tree.ret (AV.t [Part.one (Cell.v (Value.int IntKind.i64 (0 : Int))), Part.one (Cell.v (Value.bool false))], [])))) Tree.fail)) Tree.fail) (Tree.ret (AV.t [Part.one (Cell.v (Value.int IntKind.i64 (0 : Int))), Part.one (Cell.v (Value.bool false))], []))) (Tree.ret (AV.t [Part.one (Cell.v (Value.int IntKind.i64 (0 : Int))), Part.one (Cell.v (Value.bool false))], []))
noncomputable def F_target : denAs [.c (.d insT), .c (.i .i64)] → denObs [] → Tree (AV × List Ob) := fun x y => match x, y with
  | (l, k, ()), () => targetT l k
theorem ev_target : ∀ a, (evalFnL Try.prog (lk L_wide) 20 noL Try.f17 (Try.f17.body.getD .skip) [] (encAs [.c (.d insT), .c (.i .i64)] (ea_target a)) (encOs [] (eo_target a))).run = (E_target a).run := by
  rintro ⟨l, k⟩
  kernel_rfl
theorem fe_target : ∀ a y, (F_target (ea_target a) (eo_target a)).run = some y → (E_target a).run = some y := by
  rintro ⟨l, k⟩ y h
  rw [← h]
  change _ = (targetT l k).run
  dsimp only [E_target]
  unfold targetT targetB
  by_cases g1 : k < 0
  · refine (goFn g1).trans (Eq.trans ?_ (goF (by rw [decide_eq_true g1]; rfl)).symm); rfl
  refine (goTn g1).trans ?_
  rw [decide_eq_false g1]
  by_cases g2 : (l.length : Int) ≤ k
  · refine (goFn g2).trans (Eq.trans ?_ (goF (by rw [decide_eq_true g2]; rfl)).symm); rfl
  refine (goTn g2).trans ?_
  rw [decide_eq_false g2, goTa ⟨by omega, by omega⟩]
  rw [decP]
  rotate_left
  · exact ⟨by omega, by omega⟩
  unfold targetI
  simp only [slotA]
  generalize B_known (l.getD k.toNat noIns).1 (l.getD k.toNat noIns).2.1 (l.getD k.toNat noIns).2.2.1 (l.getD k.toNat noIns).2.2.2.1 (l.getD k.toNat noIns).2.2.2.2.1 = kn
  generalize namesB (l.getD k.toNat noIns) = nm
  generalize jumpsB (l.getD k.toNat noIns).1 = jp
  cases kn
  · rfl
  cases nm
  · cases jp
    · rfl
    · simp only [cond_false, cond_true]
      generalize decide (jumpI l k < 0) = c1
      generalize decide ((l.length : Int) ≤ jumpI l k) = c2
      cases c1 <;> cases c2 <;> rfl
  · simp only [cond_false, cond_true]
    generalize decide (callI l k < 0) = c1
    generalize decide ((l.length : Int) ≤ callI l k) = c2
    cases c1 <;> cases c2 <;> rfl
theorem ok_target : SummOk Kn Try.prog 17 (sumT [.dp insT, .any] false [.c (.d insT), .c (.i .i64)] [] F_target) := sumT_view tok_wide Try.checked.mixed Try.func17 (by kernel_rfl) (by rfl) 20 [] ea_target eo_target
  (by rintro ⟨l, k, ⟨⟩⟩ ⟨⟩; exact ⟨(l, k), rfl, rfl⟩) noL 0 (by rintro ⟨⟩; rfl) (noL_ok _ _ _ _ _ _) E_target ev_target fe_target
noncomputable def L_target : List (Nat × Summ) := (17, (sumT [.dp insT, .any] false [.c (.d insT), .c (.i .i64)] [] F_target)) :: L_wide
theorem tok_target : TOk Kn Try.prog (lk L_target) := lk_cons ok_target tok_wide

end Go.Proofs.Ythcfemfljholbaa
