/-
  Laws of instructions (written by our own gen_ini.py).
-/
import Derived.Test.YthcfemfljholbaaInH
import Derived.Test.YthcfemfljholbaaSzAJ
namespace Go.Proofs.Ythcfemfljholbaa.ins
open Go Go.Sy Go.Sz Go.In Go.Proofs.Ythcfemfljholbaa
set_option linter.unusedVariables false
set_option linter.unusedSimpArgs false
set_option linter.constructorNameAsVariable false
set_option maxRecDepth 100000

noncomputable def E_checks : Slots → Tree (AV × List Ob) := fun l => 
Tree.ite (decide ((400 : Int) < (↑(List.length l) : Int))) (Tree.ite (decide ((↑(List.length l) : Int) ≤ (4096 : Int))) (Tree.ret (AV.p (Part.one (Cell.v (Value.bool true))), [])) (Tree.ite (decC (List.length l ≤ (140737488355328 : Nat))) (Tree.ite (decC (List.length l ≤ (140737488355328 : Nat))) (Tree.ite (!(chk l).fst != (chk l).fst) (Tree.ite ((chk l).snd != (chk l).snd) (Tree.ret (AV.p (Part.one (Cell.v (Value.bool false))), [])) (Tree.ite (decC (List.length l ≤ (140737488355328 : Nat))) (Tree.ite (decC (List.length l ≤ (140737488355328 : Nat))) (Tree.ite ((sbs l).snd.fst == (sbs l).snd.fst) (Tree.ite ((sbs l).snd.snd == (sbs l).snd.snd) (Tree.ite (decC (List.length (sbs l).fst ≤ (1000000 : Nat) ∧ List.length (sbs l).fst ≤ (1000000 : Nat))) (Tree.ret (AV.p (Part.one (Cell.v (Value.bool (sameP (sbs l).fst (sbs l).fst)))), [])) Tree.fail) (Tree.ret (AV.p (Part.one (Cell.v (Value.bool false))), []))) (Tree.ret (AV.p (Part.one (Cell.v (Value.bool false))), []))) Tree.fail) Tree.fail)) (Tree.ret (AV.p (Part.one (Cell.v (Value.bool false))), []))) Tree.fail) Tree.fail)) (Tree.ite (decC (List.length l ≤ (140737488355328 : Nat))) (Tree.ite (decC (List.length l ≤ (140737488355328 : Nat))) (Tree.ite (!(chk l).fst != (chk l).fst) (Tree.ite ((chk l).snd != (chk l).snd) (Tree.ret (AV.p (Part.one (Cell.v (Value.bool false))), [])) (Tree.ite (decC (List.length l ≤ (140737488355328 : Nat))) (Tree.ite (decC (List.length l ≤ (140737488355328 : Nat))) (Tree.ite ((sbs l).snd.fst == (sbs l).snd.fst) (Tree.ite ((sbs l).snd.snd == (sbs l).snd.snd) (Tree.ite (decC (List.length (sbs l).fst ≤ (1000000 : Nat) ∧ List.length (sbs l).fst ≤ (1000000 : Nat))) (Tree.ret (AV.p (Part.one (Cell.v (Value.bool (sameP (sbs l).fst (sbs l).fst)))), [])) Tree.fail) (Tree.ret (AV.p (Part.one (Cell.v (Value.bool false))), []))) (Tree.ret (AV.p (Part.one (Cell.v (Value.bool false))), []))) Tree.fail) Tree.fail)) (Tree.ret (AV.p (Part.one (Cell.v (Value.bool false))), []))) Tree.fail) Tree.fail)
theorem ev_checks (l : Slots) : (evalFnL Try.prog (lk L_target) 20 noL Try.f4 (Try.f4.body.getD .skip) [] [.p (.one (.d insT l))] []).run = (E_checks l).run := by kernel_rfl
theorem size_checks (l : Slots) : sizedS Try.prog Try.f4.params.toList [.one (.sl insT)] (l, ()) = (l.length * 12 ≤ 140737488351232 ∧ True) := by kernel_rfl
theorem true_checks (l : Slots) (hok : okS [.one (.sl insT)] (l, ())) (hsz : l.length * 12 ≤ 140737488351232 ∧ True) : (E_checks l).run = some (AV.b true, []) := by
  obtain ⟨hsz, _⟩ := hsz
  have h1 : l.length ≤ 140737488355328 := by omega
  dsimp only [E_checks]
  have tail : (Tree.ite (decC (l.length ≤ 140737488355328)) (.ite (decC (l.length ≤ 140737488355328)) (.ite (!(chk l).1 != (chk l).1) (.ite ((chk l).2 != (chk l).2) (.ret (AV.b false, [])) (.ite (decC (l.length ≤ 140737488355328)) (.ite (decC (l.length ≤ 140737488355328)) (.ite ((sbs l).2.1 == (sbs l).2.1)
      (.ite ((sbs l).2.2 == (sbs l).2.2) (.ite (decC ((sbs l).1.length ≤ 1000000 ∧ (sbs l).1.length ≤ 1000000)) (.ret (AV.b (sameP (sbs l).1 (sbs l).1), [])) .fail) (.ret (AV.b false, []))) (.ret (AV.b false, []))) .fail) .fail)) (.ret (AV.b false, []))) .fail) .fail : Tree (AV × List Ob)).run = some (AV.b true, []) := by
    have hp : (sbs l).1.length ≤ 1000000 := by
      by_cases hb : (sbs l).2.2 = 0
      · obtain ⟨g0, _, g2, _⟩ := sbs_zero hb
        have := froms_len l (secs l)
        have := subsL_len l (secs l)
        rw [g2]
        change (subsL l (secs l)).length ≤ 1000000
        omega
      · rw [sbs_nil hb]
        exact Nat.zero_le _
    rw [goT (decP h1), goT (decP h1), goT (by simp), goFne rfl, goT (decP h1), goT (decP h1), goTe rfl, goTe rfl, goT (decP ⟨hp, hp⟩), show sameP (sbs l).1 (sbs l).1 = true from decide_eq_true rfl]; rfl
  by_cases g1 : 400 < l.length
  · refine (goTd (by omega)).trans ?_
    by_cases g2 : l.length ≤ 4096
    · exact goTd (by omega)
    · exact (goFd (by omega)).trans tail
  · exact (goFd (by omega)).trans tail
theorem lifted_checks (os : Os) (started : os.Started) : ∀ {H : Type} (enc : TypeId × Value → H), ReturnsInHanded {} Try.checked os 4 .any (Rows.insnChecksSpec.pre6 enc Try.prog Try.f4 [] false) (Rows.insnChecksSpec.post enc Try.prog Try.f4 false true false false) := by
  intro H enc
  refine law_lifted_sized (by kernel_rfl) (by kernel_rfl) started (by kernel_rfl) Try.func4 rfl ?_ rfl (by kernel_rfl) ?_
    (ChangeSpec.witness6 (enc := enc) (C := Try.checked) false ⟨#[], #[.slice none 0 0], []⟩ 8 (by kernel_rfl) (by kernel_rfl) (by kernel_rfl) (by kernel_rfl)) ?_
  · exact of_decide_eq_true (by kernel_rfl)
  · intro ds hds
    match ds, hds with
    | [d0], _ => rfl
  · intro W base args ds before hval htrod hw
    refine law_data_sized (K := Kn) tok_target Try.checked.mixed Try.func4 (by rfl) 20 4 (rc := []) (sh := [.one (.sl insT)]) (by kernel_rfl) ?_ W trivial base args ds before hval htrod hw
    rintro ⟨l, ⟨⟩⟩ hok hsz
    exact ⟨noL, (noL_ok _ _ _ _ _ _), (ev_checks l).trans (true_checks l hok (Eq.mp (size_checks l) hsz))⟩
theorem over_checks : Rows.insnChecksRow.holds Try.pinned (OpenSpec.ofChange Rows.insnChecksSpec) :=
  OpenClaim.holds_of_wide 4 Try.f4 rfl rfl rfl rfl rfl rfl rfl ⟨rfl, rfl, rfl, rfl, rfl⟩ rfl rfl rfl rfl rfl (by kernel_rfl) Try.func4 (by kernel_rfl)
    (of_decide_eq_true (by kernel_rfl)) (by unfold Func.isWrapper; first | (rw [if_pos (by decide +kernel)]; kernel_rfl) | (rw [if_neg (by decide +kernel)]; exact ⟨rfl, rfl⟩))
    (fun os started H enc _ => lifted_checks os started enc)
theorem holds_checks : Rows.InsnChecksSaid := over_checks
noncomputable def E_joined : Slots × Slots → Tree (AV × List Ob) := fun ⟨a, b⟩ => 
Tree.ite (decide ((2000 : Int) < IntKind.i64.wrap ((↑(List.length a) : Int) + (↑(List.length b) : Int)))) (Tree.ret (AV.p (Part.one (Cell.v (Value.bool true))), [])) (Tree.ite (bytesOk ((0 : Nat) + List.length a) (12 : Nat) && ((0 : Nat) + List.length a).ble (140737488355328 : Nat)) (Tree.ite (bytesOk (([] ++ a).length + List.length b) (12 : Nat) && (([] ++ a).length + List.length b).ble (140737488355328 : Nat)) (Tree.ite (decC (([] ++ a ++ b).length ≤ (1000000 : Nat))) (Tree.ite (decC (List.length a ≤ (1000000 : Nat))) (Tree.ite (decC (List.length b ≤ (1000000 : Nat))) (Tree.ite (bytesOk (List.length (encL a) + List.length (encL b)) (1 : Nat) && (List.length (encL a) + List.length (encL b)).ble (140737488355328 : Nat)) (Tree.ret (AV.p (Part.one (Cell.v (Value.bool (sameB (encL ([] ++ a ++ b)) (encL a ++ encL b))))), [])) Tree.fail) Tree.fail) Tree.fail) Tree.fail) Tree.fail) Tree.fail)
theorem ev_joined (a : Slots) (b : Slots) : (evalFnL Try.prog (lk L_target) 20 noL Try.f8 (Try.f8.body.getD .skip) [] [.p (.one (.d insT a)), .p (.one (.d insT b))] []).run = (E_joined (a, b)).run := by kernel_rfl
theorem size_joined (a : Slots) (b : Slots) : sizedS Try.prog Try.f8.params.toList [.one (.sl insT), .one (.sl insT)] (a, b, ()) = (a.length * 12 ≤ 140737488351232 ∧ b.length * 12 ≤ 140737488351232 ∧ True) := by kernel_rfl
theorem true_joined (a : Slots) (b : Slots) (hok : okS [.one (.sl insT), .one (.sl insT)] (a, b, ())) (hsz : a.length * 12 ≤ 140737488351232 ∧ b.length * 12 ≤ 140737488351232 ∧ True) : (E_joined (a, b)).run = some (AV.b true, []) := by
  dsimp only [E_joined]
  obtain ⟨z1, z2, _⟩ := hsz
  rw [wrap64 (by omega) (by omega)]
  by_cases g1 : 2000 < a.length + b.length
  · exact goTd (by omega)
  have e1 := encL_len a
  have e2 := encL_len b
  refine (goFd (by omega)).trans ?_
  rw [goTb ⟨by omega, by omega⟩, goTb ⟨by simp only [List.length_append, List.length_nil]; omega, by simp only [List.length_append, List.length_nil]; omega⟩, goT (decP (by simp only [List.length_append, List.length_nil]; omega)), goT (decP (by omega)), goT (decP (by omega)), goTb ⟨by omega, by omega⟩]
  rw [List.nil_append, encL_app, show sameB (encL a ++ encL b) (encL a ++ encL b) = true from decide_eq_true rfl]; rfl
theorem lifted_joined (os : Os) (started : os.Started) : ∀ {H : Type} (enc : TypeId × Value → H), ReturnsInHanded {} Try.checked os 8 .any (Rows.insnJoinedSpec.pre6 enc Try.prog Try.f8 [] false) (Rows.insnJoinedSpec.post enc Try.prog Try.f8 false true false false) := by
  intro H enc
  refine law_lifted_sized (by kernel_rfl) (by kernel_rfl) started (by kernel_rfl) Try.func8 rfl ?_ rfl (by kernel_rfl) ?_
    (ChangeSpec.witness6 (enc := enc) (C := Try.checked) false ⟨#[], #[.slice none 0 0, .slice none 0 0], []⟩ 8 (by kernel_rfl) (by kernel_rfl) (by kernel_rfl) (by kernel_rfl)) ?_
  · exact of_decide_eq_true (by kernel_rfl)
  · intro ds hds
    match ds, hds with
    | [d0, d1], _ => rfl
  · intro W base args ds before hval htrod hw
    refine law_data_sized (K := Kn) tok_target Try.checked.mixed Try.func8 (by rfl) 20 4 (rc := []) (sh := [.one (.sl insT), .one (.sl insT)]) (by kernel_rfl) ?_ W trivial base args ds before hval htrod hw
    rintro ⟨a, b, ⟨⟩⟩ hok hsz
    exact ⟨noL, (noL_ok _ _ _ _ _ _), (ev_joined a b).trans (true_joined a b hok (Eq.mp (size_joined a b) hsz))⟩
theorem over_joined : Rows.insnJoinedRow.holds Try.pinned (OpenSpec.ofChange Rows.insnJoinedSpec) :=
  OpenClaim.holds_of_wide 8 Try.f8 rfl rfl rfl rfl rfl rfl rfl ⟨rfl, rfl, rfl, rfl, rfl⟩ rfl rfl rfl rfl rfl (by kernel_rfl) Try.func8 (by kernel_rfl)
    (of_decide_eq_true (by kernel_rfl)) (by unfold Func.isWrapper; first | (rw [if_pos (by decide +kernel)]; kernel_rfl) | (rw [if_neg (by decide +kernel)]; exact ⟨rfl, rfl⟩))
    (fun os started H enc _ => lifted_joined os started enc)
theorem holds_joined : Rows.InsnJoinedSaid := over_joined
def bytesG (l : Slots) (c : Bys) : Tree (Ex × St) := .ite (fineB l)
  (.ret (.exit 0, ⟨[(0, .p (.one (.d insT l))), (5, .p (.one (.h 0)))], [(0, .row bytesT c)], 1⟩)) (.ret (.ret, ⟨[(0, .p (.one (.d insT l))), (4, AV.c (.v (.bool true))), (5, .p (.one (.h 0)))], [(0, .row bytesT c)], 1⟩))
noncomputable abbrev c_bytes : Code := Try.f7.body.getD .skip
def p_bytes : List Nat := [0, 1, 0, 1, 1, 1, 1, 1, 1, 1, 1]
def sh_bytes : Shape := ⟨[(0, .c (.d insT)), (5, .c (.h 0)), (10, .c (.i .i64))], [.row bytesT]⟩
@[reducible] def A_bytes : Type := Slots × Int × Bys
def e_bytes : A_bytes → sh_bytes.den := fun ⟨l, i, c⟩ => ((l, (), i, ()), (c, ()))
def v_bytes : sh_bytes.den → A_bytes := fun d => match d with
  | ((l, (), i, ()), (c, ())) => (l, i, c)
def I_bytes : A_bytes → Prop := fun ⟨l, i, c⟩ => 0 ≤ i ∧ l.length ≤ 2000 ∧ fineB (l.take i.toNat) = true
noncomputable def G_bytes : A_bytes → Tree (Ex × St) := fun ⟨l, i, c⟩ => bytesG l c
noncomputable def orc_bytes : Orc := ⟨sh_bytes, [], [0, 4, 5], [], fun d => ckP (I_bytes (v_bytes d)) (G_bytes (v_bytes d))⟩
noncomputable def LT_bytes : LT := oneL p_bytes orc_bytes (noL)
noncomputable def T_bytes : Slots × Int × Bys → Tree (A_bytes ⊕ (Ex × St)) := fun ⟨l, i, c⟩ => 
Tree.ite (decide (i < (↑(List.length l) : Int))) (Tree.ite (decide ((0 : Int) ≤ i) && decide (i < (↑(List.length l) : Int))) (Tree.ite (!(BitVec.ofInt (8 : Nat) (15 : Int)).ult (List.getD l i.toNat noIns).snd.fst) (Tree.ite (decide ((0 : Int) ≤ i) && decide (i < (↑(List.length l) : Int))) (Tree.ite ((BitVec.ofInt (8 : Nat) (15 : Int)).ult (List.getD l i.toNat noIns).snd.snd.fst) (Tree.ret (Sum.inr (Ex.ret, { env := [((0 : Nat), AV.p (Part.one (Cell.d insT l))), ((4 : Nat), AV.p (Part.one (Cell.v (Value.bool true)))), ((5 : Nat), AV.p (Part.one (Cell.h (0 : Nat))))], hp := [((0 : Nat), Ob.row bytesT c)], nx := (1 : Nat) }))) (Tree.ret (Sum.inl (l, IntKind.i64.wrap (i + (1 : Int)), c)))) Tree.fail) (Tree.ret (Sum.inr (Ex.ret, { env := [((0 : Nat), AV.p (Part.one (Cell.d insT l))), ((4 : Nat), AV.p (Part.one (Cell.v (Value.bool true)))), ((5 : Nat), AV.p (Part.one (Cell.h (0 : Nat))))], hp := [((0 : Nat), Ob.row bytesT c)], nx := (1 : Nat) })))) Tree.fail) (Tree.ret (Sum.inr (Ex.exit (0 : Nat), { env := [((0 : Nat), AV.p (Part.one (Cell.d insT l))), ((5 : Nat), AV.p (Part.one (Cell.h (0 : Nat))))], hp := [((0 : Nat), Ob.row bytesT c)], nx := (1 : Nat) })))
theorem turn_bytes : ∀ a : A_bytes, (turnT 0 orc_bytes (evalCode Try.prog (lk L_target) Try.f7.ntmps 0 20 LT_bytes (bodyAt c_bytes p_bytes) false (0 :: p_bytes)) (sh_bytes.enc (e_bytes a))).run = ((T_bytes a).bind fun s => .ret (turnV sh_bytes e_bytes s)).run := by
  rintro ⟨l, i, c⟩
  kernel_rfl

def μ_bytes : A_bytes → Nat := fun ⟨l, i, c⟩ => l.length - i.toNat
theorem step_bytes : ∀ a : A_bytes, I_bytes a → (∃ a', (T_bytes a).run = some (.inl a') ∧ I_bytes a' ∧ μ_bytes a' < μ_bytes a ∧ (G_bytes a').run = (G_bytes a).run) ∨ (∃ y, (T_bytes a).run = some (.inr y) ∧ (G_bytes a).run = some y ∧ ((∃ id, y.1 = .exit id) ∨ y.1 = .ret)) := by
  rintro ⟨l, i, c⟩ ⟨h1, h2, h3⟩
  simp only [T_bytes]
  by_cases hi : i < l.length
  · rw [goTd hi, goTa ⟨h1, hi⟩, wrap64 (n := i + 1) (by omega) (by omega)]
    have hup : fineB (l.take (i + 1).toNat) = (fineB (l.take i.toNat) && (!(BitVec.ofInt 8 15).ult (l.getD i.toNat noIns).2.1 && !(BitVec.ofInt 8 15).ult (l.getD i.toNat noIns).2.2.1)) := by
      rw [toNat_up h1, List.take_add_one]
      unfold fineB
      rw [List.all_append]
      congr 1
      have : i.toNat < l.length := by omega
      simp [this, List.getD_eq_getElem?_getD]
    rw [h3, Bool.true_and] at hup
    have hno : fineB (l.take (i + 1).toNat) = false → fineB l = false := fun h => by
      rw [Bool.eq_false_iff] at h ⊢
      intro hf
      refine h ?_
      unfold fineB at hf ⊢
      rw [List.all_eq_true] at hf ⊢
      exact fun x hx => hf x (List.mem_of_mem_take hx)
    cases c1 : (BitVec.ofInt 8 15).ult (l.getD i.toNat noIns).2.1 with
    | true =>
      right
      rw [c1] at hup
      rw [goFN rfl]
      refine ⟨_, rfl, ?_, .inr rfl⟩
      simp only [G_bytes, bytesG]
      rw [goF (hno hup)]; rfl
    | false =>
      rw [c1] at hup
      rw [goTN rfl, goTa ⟨h1, hi⟩]
      cases c2 : (BitVec.ofInt 8 15).ult (l.getD i.toNat noIns).2.2.1 with
      | true =>
        right
        rw [c2] at hup
        rw [goT rfl]
        refine ⟨_, rfl, ?_, .inr rfl⟩
        simp only [G_bytes, bytesG]
        rw [goF (hno hup)]; rfl
      | false =>
        left
        rw [c2] at hup
        rw [goF rfl]
        exact ⟨_, rfl, ⟨by omega, h2, hup⟩, by simp only [μ_bytes]; omega, rfl⟩
  · right
    rw [goFd hi]
    refine ⟨_, rfl, ?_, .inl ⟨0, rfl⟩⟩
    rw [List.take_of_length_le (by omega)] at h3
    simp only [G_bytes, bytesG]
    rw [goT h3]; rfl
theorem lok_bytes : LOk Try.prog (lk L_target) Try.f7.ntmps 0 20 LT_bytes c_bytes := lok_view (noL_ok2 _ _ _ _ _ _ _) (by kernel_rfl) e_bytes (by rintro ⟨⟨l, ⟨⟩, i, ⟨⟩⟩, ⟨c, ⟨⟩⟩⟩; exact ⟨(l, i, c), rfl⟩) T_bytes turn_bytes I_bytes G_bytes (by rintro ⟨l, i, c⟩; rfl) μ_bytes step_bytes
noncomputable def E_bytes : Slots × Bys → Tree (AV × List Ob) := fun ⟨l, b⟩ => 
Tree.ite (!decide ((2000 : Int) < (↑(List.length l) : Int))) (Tree.ite (decide ((20000 : Int) < (↑(List.length b) : Int))) (Tree.ret (AV.p (Part.one (Cell.v (Value.bool true))), [])) (Tree.ite (decC (List.length l ≤ (1000000 : Nat))) (Tree.ite (decC (List.length l ≤ (1000000 : Nat))) (Tree.ite (!sameB (encL l) (encL l)) (Tree.ret (AV.p (Part.one (Cell.v (Value.bool false))), [])) (Tree.ite (decC (List.length b ≤ (1000000 : Nat))) (Tree.ite (decC (List.length b ≤ (1000000 : Nat))) (Tree.ite (!decE b != decE b) (Tree.ite (decC (List.length (decS b) ≤ (1000000 : Nat) ∧ List.length (decS b) ≤ (1000000 : Nat))) (Tree.ite (!!sameI (decS b) (decS b)) (Tree.ite (decE b == (0 : Int)) (Tree.ite (decC (List.length (decS b) ≤ (1000000 : Nat))) (Tree.ite (!sameB (encL (decS b)) b) (Tree.ret (AV.p (Part.one (Cell.v (Value.bool false))), [])) (Tree.ite (decC ((0 : Int) ≤ (0 : Int) ∧ List.length l ≤ (2000 : Nat) ∧ fineB (List.take (0 : Nat) l) = true)) (Tree.ite (fineB l) (Tree.ite (decC (List.length (encL l) ≤ (1000000 : Nat))) (Tree.ite (decE (encL l) == (0 : Int)) (Tree.ite (decC (List.length (decS (encL l)) ≤ (1000000 : Nat) ∧ List.length l ≤ (1000000 : Nat))) (Tree.ret (AV.p (Part.one (Cell.v (Value.bool (sameI (decS (encL l)) l)))), [])) Tree.fail) (Tree.ret (AV.p (Part.one (Cell.v (Value.bool false))), []))) Tree.fail) (Tree.ret (AV.p (Part.one (Cell.v (Value.bool true))), []))) Tree.fail)) Tree.fail) (Tree.ite (decC ((0 : Int) ≤ (0 : Int) ∧ List.length l ≤ (2000 : Nat) ∧ fineB (List.take (0 : Nat) l) = true)) (Tree.ite (fineB l) (Tree.ite (decC (List.length (encL l) ≤ (1000000 : Nat))) (Tree.ite (decE (encL l) == (0 : Int)) (Tree.ite (decC (List.length (decS (encL l)) ≤ (1000000 : Nat) ∧ List.length l ≤ (1000000 : Nat))) (Tree.ret (AV.p (Part.one (Cell.v (Value.bool (sameI (decS (encL l)) l)))), [])) Tree.fail) (Tree.ret (AV.p (Part.one (Cell.v (Value.bool false))), []))) Tree.fail) (Tree.ret (AV.p (Part.one (Cell.v (Value.bool true))), []))) Tree.fail)) (Tree.ret (AV.p (Part.one (Cell.v (Value.bool false))), []))) Tree.fail) (Tree.ret (AV.p (Part.one (Cell.v (Value.bool false))), []))) Tree.fail) Tree.fail)) Tree.fail) Tree.fail)) (Tree.ret (AV.p (Part.one (Cell.v (Value.bool true))), []))
theorem ev_bytes (l : Slots) (b : Bys) : (evalFnL Try.prog (lk L_target) 20 LT_bytes Try.f7 c_bytes [] [.p (.one (.d insT l)), .p (.one (.d bytesT b))] []).run = (E_bytes (l, b)).run := by kernel_rfl

theorem true_bytes (l : Slots) (b : Bys) (hok : okS [.one (.sl insT), .one (.sl bytesT)] (l, b, ())) : (E_bytes (l, b)).run = some (AV.b true, []) := by
  obtain ⟨⟨_, k1⟩, _⟩ := hok
  dsimp only [E_bytes]
  by_cases g1 : 2000 < l.length
  · exact goFn (by omega)
  refine (goTn (by omega)).trans ?_
  by_cases g2 : 20000 < b.length
  · exact goTd (by omega)
  refine (goFd (by omega)).trans ?_
  have el := encL_len l
  have hd := decS_len b
  have sB : ∀ x : Bys, sameB x x = true := fun x => decide_eq_true rfl
  have sI : ∀ x : Slots, sameI x x = true := fun x => decide_eq_true rfl
  have tail : (Tree.ite (decC (0 ≤ (0 : Int) ∧ l.length ≤ 2000 ∧ fineB (l.take 0) = true)) (.ite (fineB l) (.ite (decC ((encL l).length ≤ 1000000)) (.ite (decE (encL l) == 0) (.ite (decC ((decS (encL l)).length ≤ 1000000 ∧ l.length ≤ 1000000)) (.ret (AV.b (sameI (decS (encL l)) l), [])) .fail) (.ret (AV.b false, []))) .fail) (.ret (AV.b true, []))) .fail : Tree (AV × List Ob)).run = some (AV.b true, []) := by
    rw [goT (decP ⟨Int.le_refl 0, by omega, rfl⟩)]
    cases hf : fineB l with
    | false => rfl
    | true =>
      have hall : ∀ k, k < l.length → fine (l.getD k noIns) := fun k hk => by
        obtain ⟨f1, f2⟩ := fine_mem hf hk
        have e : l.getD k noIns = l[k] := by simp [List.getD_eq_getElem?_getD, hk]
        obtain ⟨_, _, _, f3, f4, _⟩ := k1 l[k] (List.getElem_mem hk)
        rw [e] at f1 f2 ⊢
        exact ⟨f1, f2, f3, f4⟩
      obtain ⟨d1, d2⟩ := decS_enc hall
      rw [goT rfl, goT (decP (by omega)), d1, d2, goTe rfl, goT (decP ⟨by omega, by omega⟩), sI]; rfl
  rw [goT (decP (by omega)), goT (decP (by omega)), sB, goFN rfl, goT (decP (by omega)), goT (decP (by omega)), goT (by simp), goT (decP ⟨by omega, by omega⟩), sI, goTN (c := !true) rfl]
  by_cases g3 : decE b = 0
  · refine (goTe g3).trans ?_
    rw [goT (decP (by omega)), enc_decS g3, sB, goFN rfl]
    exact tail
  · exact (goFe g3).trans tail
theorem lifted_bytes (os : Os) (started : os.Started) : ∀ {H : Type} (enc : TypeId × Value → H), ReturnsInHanded {} Try.checked os 7 .any (Rows.insnBytesSpec.pre6 enc Try.prog Try.f7 [] false) (Rows.insnBytesSpec.post enc Try.prog Try.f7 false true false false) := by
  intro H enc
  refine law_lifted (by kernel_rfl) (by kernel_rfl) started (by kernel_rfl) Try.func7 rfl ?_ rfl (by kernel_rfl) ?_
    (ChangeSpec.witness6 (enc := enc) (C := Try.checked) false ⟨#[], #[.slice none 0 0, .slice none 0 0], []⟩ 8 (by kernel_rfl) (by kernel_rfl) (by kernel_rfl) (by kernel_rfl)) ?_
  · exact of_decide_eq_true (by kernel_rfl)
  · intro ds hds
    match ds, hds with
    | [d0, d1], _ => rfl
  · intro W base args ds before hval htrod
    refine law_data (K := Kn) tok_target Try.checked.mixed Try.func7 (by rfl) 20 4 (rc := []) (sh := [.one (.sl insT), .one (.sl bytesT)]) (by kernel_rfl) ?_ W trivial base args ds before hval htrod
    rintro ⟨l, b, ⟨⟩⟩ hok
    exact ⟨LT_bytes, lok_bytes, (ev_bytes l b).trans (true_bytes l b hok)⟩
theorem over_bytes : Rows.insnBytesRow.holds Try.pinned (OpenSpec.ofChange Rows.insnBytesSpec) :=
  OpenClaim.holds_of_wide 7 Try.f7 rfl rfl rfl rfl rfl rfl rfl ⟨rfl, rfl, rfl, rfl, rfl⟩ rfl rfl rfl rfl rfl (by kernel_rfl) Try.func7 (by kernel_rfl)
    (of_decide_eq_true (by kernel_rfl)) (by unfold Func.isWrapper; first | (rw [if_pos (by decide +kernel)]; kernel_rfl) | (rw [if_neg (by decide +kernel)]; exact ⟨rfl, rfl⟩))
    (fun os started H enc _ => lifted_bytes os started enc)
theorem holds_bytes : Rows.InsnBytesSaid := over_bytes
end Go.Proofs.Ythcfemfljholbaa.ins
