/-
  Laws of instructions: nothing leaves its subprogram (written by our own gen_ink.py).
-/
import Derived.Test.YthcfemfljholbaaInH
import Derived.Test.YthcfemfljholbaaSzAJ
import Derived.Test.YthcfemfljholbaaInW
namespace Go.Proofs.Ythcfemfljholbaa.insk
open Go Go.Sy Go.Sz Go.In Go.Proofs.Ythcfemfljholbaa
set_option linter.unusedVariables false
set_option linter.unusedSimpArgs false
set_option linter.constructorNameAsVariable false
set_option maxRecDepth 100000

theorem chk_fine {l : Slots} (h : (chk l).2 = 0) : ¬ (l.length < 1 ∨ 4096 < l.length) ∧ firstBad l (secs l) = none ∧ (∀ j, j < (froms l (secs l)).length → endBad l (secs l) (partOf (subsL l (secs l)) j) = false) ∧
    (∀ j, j < (froms l (secs l)).length → ∀ k, fnA (froms l (secs l)) l.length j ≤ k → k < fnA (froms l (secs l)) l.length (j + 1) → leadBad l (secs l) (partOf (subsL l (secs l)) j) k = false) ∧ sbs l = (subsL l (secs l), 0, 0) := by
  unfold chk at h
  by_cases g0 : l.length < 1 ∨ 4096 < l.length
  · rw [if_pos g0] at h; cases h
  rw [if_neg g0] at h
  cases g1 : firstBad l (secs l) with
  | some k => rw [g1] at h; exact absurd h (bad_some g1).2.1
  | none =>
    rw [g1] at h
    dsimp only at h
    by_cases g2 : 64 < (froms l (secs l)).length
    · rw [if_pos g2] at h; cases h
    rw [if_neg g2] at h
    cases g3 : endedI l (secs l) (subsL l (secs l)) with
    | some z => rw [g3] at h; cases h
    | none =>
      rw [g3] at h
      dsimp only at h
      cases g4 : leadsI l (secs l) (subsL l (secs l)) with
      | some k => rw [g4] at h; cases h
      | none =>
        have hs : scan (fun j => endBad l (secs l) (partOf (subsL l (secs l)) j)) (subsL l (secs l)).length 0 = none := by
          unfold endedI at g3
          cases c : scan (fun j => endBad l (secs l) (partOf (subsL l (secs l)) j)) (subsL l (secs l)).length 0 with
          | none => rfl
          | some j => rw [c] at g3; cases g3
        have hs2 := scan_is (p := fun j => endBad l (secs l) (partOf (subsL l (secs l)) j)) (n := (subsL l (secs l)).length) (k := 0)
        rw [hs] at hs2
        have hr : rcO l (secs l) (subsL l (secs l)) = none := by rw [← g4]; exact (leads_ref (by omega)).symm
        have hr2 := scan_is (p := refBad l (secs l) (subsL l (secs l))) (n := l.length) (k := 0)
        unfold rcO at hr
        rw [hr] at hr2
        refine ⟨g0, rfl, fun j hj => hs2 j (Nat.zero_le _) (by rw [subsL_len]; omega), fun j hj k k1 k2 => ?_, ?_⟩
        · rw [lead_ref (by omega) hj k1 k2]
          have := (fnA_up hj).2
          exact hr2 k (Nat.zero_le _) (by omega)
        · unfold sbs
          rw [if_neg g0, g1]
          dsimp only
          rw [if_neg g2, g3]
noncomputable abbrev c_stays : Code := Try.f9.body.getD .skip
def p_stays1 : List Nat := [0, 1, 0, 1, 1, 1, 1, 1, 1, 1]
def sh_stays1 : Shape := ⟨[(0, .c (.d insT)), (5, .c (.h 0)), (8, .c (.i .i64))], [.row partsT]⟩
@[reducible] def A_stays1 : Type := Slots × Int × Parts
def e_stays1 : A_stays1 → sh_stays1.den := fun ⟨l, i, p⟩ => ((l, (), i, ()), (p, ()))
def v_stays1 : sh_stays1.den → A_stays1 := fun d => match d with
  | ((l, (), i, ()), (p, ())) => (l, i, p)
def I_stays1 : A_stays1 → Prop := fun ⟨l, i, p⟩ => 0 ≤ i ∧ (chk l).2 = 0 ∧ l.length ≤ 400 ∧ p = subsL l (secs l)
noncomputable def G_stays1 : A_stays1 → Tree (Ex × St) := fun ⟨l, i, p⟩ => .ret (.exit 0, ⟨[], [], 0⟩)
noncomputable def orc_stays1 : Orc := ⟨sh_stays1, [(5, partsT)], [2], [], fun d => ckP (I_stays1 (v_stays1 d)) (G_stays1 (v_stays1 d))⟩
def p_stays2 : List Nat := [0, 1, 1, 0, 0, 1, 0, 0, 1, 0, 1, 1, 1, 1, 1, 1, 1]
def sh_stays2 : Shape := ⟨[(0, .c (.d insT)), (5, .c (.h 0)), (8, .c (.i .i64)), (9, .c (.i .i64))], [.row partsT]⟩
@[reducible] def A_stays2 : Type := Slots × Int × Int × Parts
def e_stays2 : A_stays2 → sh_stays2.den := fun ⟨l, i, k, p⟩ => ((l, (), i, k, ()), (p, ()))
def v_stays2 : sh_stays2.den → A_stays2 := fun d => match d with
  | ((l, (), i, k, ()), (p, ())) => (l, i, k, p)
def I_stays2 : A_stays2 → Prop := fun ⟨l, i, k, p⟩ => 0 ≤ i ∧ i < (froms l (secs l)).length ∧ (chk l).2 = 0 ∧ l.length ≤ 400 ∧ p = subsL l (secs l) ∧ (fnA (froms l (secs l)) l.length i.toNat : Int) ≤ k ∧ k ≤ (fnA (froms l (secs l)) l.length (i.toNat + 1) : Int) ∧ secB l k.toNat = false
noncomputable def G_stays2 : A_stays2 → Tree (Ex × St) := fun ⟨l, i, k, p⟩ => .ret (.exit 2, ⟨[(0, .p (.one (.d insT l))), (5, .p (.one (.h 0))), (8, .p (.one (.v (.int .i64 i))))], [(0, .row partsT p)], 1⟩)
noncomputable def orc_stays2 : Orc := ⟨sh_stays2, [(5, partsT)], [0, 2, 5, 8], [], fun d => ckP (I_stays2 (v_stays2 d)) (G_stays2 (v_stays2 d))⟩
noncomputable def LT_stays : LT := oneL p_stays1 orc_stays1 (oneL p_stays2 orc_stays2 (noL))
noncomputable def T_stays2 : Slots × Int × Int × Parts → Tree (A_stays2 ⊕ (Ex × St)) := fun ⟨l, i, k, p⟩ => 
Tree.ite (decide ((0 : Int) ≤ i) && decide (i < (↑(List.length p) : Int))) (Tree.ite (decide (k < (List.getD p i.toNat ((0 : Int), (0 : Int), ())).snd.fst)) (Tree.ite (decide ((0 : Int) ≤ k) && decide (k < (↑(List.length l) : Int))) (Tree.ite ((List.getD l k.toNat noIns).fst == BitVec.ofInt (8 : Nat) (24 : Int)) (Tree.ite (decide ((0 : Int) ≤ i) && decide (i < (↑(List.length p) : Int))) (Tree.ite (IntKind.i64.wrap (IntKind.i64.wrap (k + (1 : Int)) + (1 : Int)) == (List.getD p i.toNat ((0 : Int), (0 : Int), ())).snd.fst) (Tree.ite ((List.getD l k.toNat noIns).fst != BitVec.ofInt (8 : Nat) (149 : Int)) (Tree.ite ((List.getD l k.toNat noIns).fst != BitVec.ofInt (8 : Nat) (5 : Int)) (Tree.ret (Sum.inr (Ex.ret, { env := [((0 : Nat), AV.p (Part.one (Cell.d insT l))), ((2 : Nat), AV.p (Part.one (Cell.v (Value.bool false)))), ((5 : Nat), AV.p (Part.one (Cell.h (0 : Nat)))), ((8 : Nat), AV.p (Part.one (Cell.v (Value.int IntKind.i64 i))))], hp := [((0 : Nat), Ob.row partsT p)], nx := (1 : Nat) }))) (Tree.ite (targetB l (IntKind.i64.wrap (k + (1 : Int)))) (Tree.ite ((List.getD l k.toNat noIns).fst != BitVec.ofInt (8 : Nat) (24 : Int)) (Tree.ite ((List.getD l k.toNat noIns).fst != BitVec.ofInt (8 : Nat) (133 : Int)) (Tree.ite (decide ((0 : Int) ≤ i) && decide (i < (↑(List.length p) : Int))) (Tree.ite (!decide (targetI l (IntKind.i64.wrap (k + (1 : Int))) < (List.getD p i.toNat ((0 : Int), (0 : Int), ())).fst)) (Tree.ite (decide ((0 : Int) ≤ i) && decide (i < (↑(List.length p) : Int))) (Tree.ite (decide ((List.getD p i.toNat ((0 : Int), (0 : Int), ())).snd.fst ≤ targetI l (IntKind.i64.wrap (k + (1 : Int))))) (Tree.ret (Sum.inr (Ex.ret, { env := [((0 : Nat), AV.p (Part.one (Cell.d insT l))), ((2 : Nat), AV.p (Part.one (Cell.v (Value.bool false)))), ((5 : Nat), AV.p (Part.one (Cell.h (0 : Nat)))), ((8 : Nat), AV.p (Part.one (Cell.v (Value.int IntKind.i64 i))))], hp := [((0 : Nat), Ob.row partsT p)], nx := (1 : Nat) }))) (Tree.ret (Sum.inl (l, i, IntKind.i64.wrap (IntKind.i64.wrap (k + (1 : Int)) + (1 : Int)), p)))) Tree.fail) (Tree.ret (Sum.inr (Ex.ret, { env := [((0 : Nat), AV.p (Part.one (Cell.d insT l))), ((2 : Nat), AV.p (Part.one (Cell.v (Value.bool false)))), ((5 : Nat), AV.p (Part.one (Cell.h (0 : Nat)))), ((8 : Nat), AV.p (Part.one (Cell.v (Value.int IntKind.i64 i))))], hp := [((0 : Nat), Ob.row partsT p)], nx := (1 : Nat) })))) Tree.fail) (Tree.ret (Sum.inl (l, i, IntKind.i64.wrap (IntKind.i64.wrap (k + (1 : Int)) + (1 : Int)), p)))) (Tree.ret (Sum.inl (l, i, IntKind.i64.wrap (IntKind.i64.wrap (k + (1 : Int)) + (1 : Int)), p)))) (Tree.ite ((List.getD l k.toNat noIns).fst != BitVec.ofInt (8 : Nat) (24 : Int)) (Tree.ite ((List.getD l k.toNat noIns).fst != BitVec.ofInt (8 : Nat) (133 : Int)) (Tree.ret (Sum.inl (l, i, IntKind.i64.wrap (IntKind.i64.wrap (k + (1 : Int)) + (1 : Int)), p))) (Tree.ret (Sum.inl (l, i, IntKind.i64.wrap (IntKind.i64.wrap (k + (1 : Int)) + (1 : Int)), p)))) (Tree.ret (Sum.inl (l, i, IntKind.i64.wrap (IntKind.i64.wrap (k + (1 : Int)) + (1 : Int)), p)))))) (Tree.ite (targetB l (IntKind.i64.wrap (k + (1 : Int)))) (Tree.ite ((List.getD l k.toNat noIns).fst != BitVec.ofInt (8 : Nat) (24 : Int)) (Tree.ite ((List.getD l k.toNat noIns).fst != BitVec.ofInt (8 : Nat) (133 : Int)) (Tree.ite (decide ((0 : Int) ≤ i) && decide (i < (↑(List.length p) : Int))) (Tree.ite (!decide (targetI l (IntKind.i64.wrap (k + (1 : Int))) < (List.getD p i.toNat ((0 : Int), (0 : Int), ())).fst)) (Tree.ite (decide ((0 : Int) ≤ i) && decide (i < (↑(List.length p) : Int))) (Tree.ite (decide ((List.getD p i.toNat ((0 : Int), (0 : Int), ())).snd.fst ≤ targetI l (IntKind.i64.wrap (k + (1 : Int))))) (Tree.ret (Sum.inr (Ex.ret, { env := [((0 : Nat), AV.p (Part.one (Cell.d insT l))), ((2 : Nat), AV.p (Part.one (Cell.v (Value.bool false)))), ((5 : Nat), AV.p (Part.one (Cell.h (0 : Nat)))), ((8 : Nat), AV.p (Part.one (Cell.v (Value.int IntKind.i64 i))))], hp := [((0 : Nat), Ob.row partsT p)], nx := (1 : Nat) }))) (Tree.ret (Sum.inl (l, i, IntKind.i64.wrap (IntKind.i64.wrap (k + (1 : Int)) + (1 : Int)), p)))) Tree.fail) (Tree.ret (Sum.inr (Ex.ret, { env := [((0 : Nat), AV.p (Part.one (Cell.d insT l))), ((2 : Nat), AV.p (Part.one (Cell.v (Value.bool false)))), ((5 : Nat), AV.p (Part.one (Cell.h (0 : Nat)))), ((8 : Nat), AV.p (Part.one (Cell.v (Value.int IntKind.i64 i))))], hp := [((0 : Nat), Ob.row partsT p)], nx := (1 : Nat) })))) Tree.fail) (Tree.ret (Sum.inl (l, i, IntKind.i64.wrap (IntKind.i64.wrap (k + (1 : Int)) + (1 : Int)), p)))) (Tree.ret (Sum.inl (l, i, IntKind.i64.wrap (IntKind.i64.wrap (k + (1 : Int)) + (1 : Int)), p)))) (Tree.ite ((List.getD l k.toNat noIns).fst != BitVec.ofInt (8 : Nat) (24 : Int)) (Tree.ite ((List.getD l k.toNat noIns).fst != BitVec.ofInt (8 : Nat) (133 : Int)) (Tree.ret (Sum.inl (l, i, IntKind.i64.wrap (IntKind.i64.wrap (k + (1 : Int)) + (1 : Int)), p))) (Tree.ret (Sum.inl (l, i, IntKind.i64.wrap (IntKind.i64.wrap (k + (1 : Int)) + (1 : Int)), p)))) (Tree.ret (Sum.inl (l, i, IntKind.i64.wrap (IntKind.i64.wrap (k + (1 : Int)) + (1 : Int)), p)))))) (Tree.ite (targetB l (IntKind.i64.wrap (k + (1 : Int)))) (Tree.ite ((List.getD l k.toNat noIns).fst != BitVec.ofInt (8 : Nat) (24 : Int)) (Tree.ite ((List.getD l k.toNat noIns).fst != BitVec.ofInt (8 : Nat) (133 : Int)) (Tree.ite (decide ((0 : Int) ≤ i) && decide (i < (↑(List.length p) : Int))) (Tree.ite (!decide (targetI l (IntKind.i64.wrap (k + (1 : Int))) < (List.getD p i.toNat ((0 : Int), (0 : Int), ())).fst)) (Tree.ite (decide ((0 : Int) ≤ i) && decide (i < (↑(List.length p) : Int))) (Tree.ite (decide ((List.getD p i.toNat ((0 : Int), (0 : Int), ())).snd.fst ≤ targetI l (IntKind.i64.wrap (k + (1 : Int))))) (Tree.ret (Sum.inr (Ex.ret, { env := [((0 : Nat), AV.p (Part.one (Cell.d insT l))), ((2 : Nat), AV.p (Part.one (Cell.v (Value.bool false)))), ((5 : Nat), AV.p (Part.one (Cell.h (0 : Nat)))), ((8 : Nat), AV.p (Part.one (Cell.v (Value.int IntKind.i64 i))))], hp := [((0 : Nat), Ob.row partsT p)], nx := (1 : Nat) }))) (Tree.ret (Sum.inl (l, i, IntKind.i64.wrap (IntKind.i64.wrap (k + (1 : Int)) + (1 : Int)), p)))) Tree.fail) (Tree.ret (Sum.inr (Ex.ret, { env := [((0 : Nat), AV.p (Part.one (Cell.d insT l))), ((2 : Nat), AV.p (Part.one (Cell.v (Value.bool false)))), ((5 : Nat), AV.p (Part.one (Cell.h (0 : Nat)))), ((8 : Nat), AV.p (Part.one (Cell.v (Value.int IntKind.i64 i))))], hp := [((0 : Nat), Ob.row partsT p)], nx := (1 : Nat) })))) Tree.fail) (Tree.ret (Sum.inl (l, i, IntKind.i64.wrap (IntKind.i64.wrap (k + (1 : Int)) + (1 : Int)), p)))) (Tree.ret (Sum.inl (l, i, IntKind.i64.wrap (IntKind.i64.wrap (k + (1 : Int)) + (1 : Int)), p)))) (Tree.ite ((List.getD l k.toNat noIns).fst != BitVec.ofInt (8 : Nat) (24 : Int)) (Tree.ite ((List.getD l k.toNat noIns).fst != BitVec.ofInt (8 : Nat) (133 : Int)) (Tree.ret (Sum.inl (l, i, IntKind.i64.wrap (IntKind.i64.wrap (k + (1 : Int)) + (1 : Int)), p))) (Tree.ret (Sum.inl (l, i, IntKind.i64.wrap (IntKind.i64.wrap (k + (1 : Int)) + (1 : Int)), p)))) (Tree.ret (Sum.inl (l, i, IntKind.i64.wrap (IntKind.i64.wrap (k + (1 : Int)) + (1 : Int)), p)))))) Tree.fail) (Tree.ite (decide ((0 : Int) ≤ i) && decide (i < (↑(List.length p) : Int))) (Tree.ite (IntKind.i64.wrap (k + (1 : Int)) == (List.getD p i.toNat ((0 : Int), (0 : Int), ())).snd.fst) (Tree.ite ((List.getD l k.toNat noIns).fst != BitVec.ofInt (8 : Nat) (149 : Int)) (Tree.ite ((List.getD l k.toNat noIns).fst != BitVec.ofInt (8 : Nat) (5 : Int)) (Tree.ret (Sum.inr (Ex.ret, { env := [((0 : Nat), AV.p (Part.one (Cell.d insT l))), ((2 : Nat), AV.p (Part.one (Cell.v (Value.bool false)))), ((5 : Nat), AV.p (Part.one (Cell.h (0 : Nat)))), ((8 : Nat), AV.p (Part.one (Cell.v (Value.int IntKind.i64 i))))], hp := [((0 : Nat), Ob.row partsT p)], nx := (1 : Nat) }))) (Tree.ite (targetB l k) (Tree.ite ((List.getD l k.toNat noIns).fst != BitVec.ofInt (8 : Nat) (24 : Int)) (Tree.ite ((List.getD l k.toNat noIns).fst != BitVec.ofInt (8 : Nat) (133 : Int)) (Tree.ite (decide ((0 : Int) ≤ i) && decide (i < (↑(List.length p) : Int))) (Tree.ite (!decide (targetI l k < (List.getD p i.toNat ((0 : Int), (0 : Int), ())).fst)) (Tree.ite (decide ((0 : Int) ≤ i) && decide (i < (↑(List.length p) : Int))) (Tree.ite (decide ((List.getD p i.toNat ((0 : Int), (0 : Int), ())).snd.fst ≤ targetI l k)) (Tree.ret (Sum.inr (Ex.ret, { env := [((0 : Nat), AV.p (Part.one (Cell.d insT l))), ((2 : Nat), AV.p (Part.one (Cell.v (Value.bool false)))), ((5 : Nat), AV.p (Part.one (Cell.h (0 : Nat)))), ((8 : Nat), AV.p (Part.one (Cell.v (Value.int IntKind.i64 i))))], hp := [((0 : Nat), Ob.row partsT p)], nx := (1 : Nat) }))) (Tree.ret (Sum.inl (l, i, IntKind.i64.wrap (k + (1 : Int)), p)))) Tree.fail) (Tree.ret (Sum.inr (Ex.ret, { env := [((0 : Nat), AV.p (Part.one (Cell.d insT l))), ((2 : Nat), AV.p (Part.one (Cell.v (Value.bool false)))), ((5 : Nat), AV.p (Part.one (Cell.h (0 : Nat)))), ((8 : Nat), AV.p (Part.one (Cell.v (Value.int IntKind.i64 i))))], hp := [((0 : Nat), Ob.row partsT p)], nx := (1 : Nat) })))) Tree.fail) (Tree.ret (Sum.inl (l, i, IntKind.i64.wrap (k + (1 : Int)), p)))) (Tree.ret (Sum.inl (l, i, IntKind.i64.wrap (k + (1 : Int)), p)))) (Tree.ite ((List.getD l k.toNat noIns).fst != BitVec.ofInt (8 : Nat) (24 : Int)) (Tree.ite ((List.getD l k.toNat noIns).fst != BitVec.ofInt (8 : Nat) (133 : Int)) (Tree.ret (Sum.inl (l, i, IntKind.i64.wrap (k + (1 : Int)), p))) (Tree.ret (Sum.inl (l, i, IntKind.i64.wrap (k + (1 : Int)), p)))) (Tree.ret (Sum.inl (l, i, IntKind.i64.wrap (k + (1 : Int)), p)))))) (Tree.ite (targetB l k) (Tree.ite ((List.getD l k.toNat noIns).fst != BitVec.ofInt (8 : Nat) (24 : Int)) (Tree.ite ((List.getD l k.toNat noIns).fst != BitVec.ofInt (8 : Nat) (133 : Int)) (Tree.ite (decide ((0 : Int) ≤ i) && decide (i < (↑(List.length p) : Int))) (Tree.ite (!decide (targetI l k < (List.getD p i.toNat ((0 : Int), (0 : Int), ())).fst)) (Tree.ite (decide ((0 : Int) ≤ i) && decide (i < (↑(List.length p) : Int))) (Tree.ite (decide ((List.getD p i.toNat ((0 : Int), (0 : Int), ())).snd.fst ≤ targetI l k)) (Tree.ret (Sum.inr (Ex.ret, { env := [((0 : Nat), AV.p (Part.one (Cell.d insT l))), ((2 : Nat), AV.p (Part.one (Cell.v (Value.bool false)))), ((5 : Nat), AV.p (Part.one (Cell.h (0 : Nat)))), ((8 : Nat), AV.p (Part.one (Cell.v (Value.int IntKind.i64 i))))], hp := [((0 : Nat), Ob.row partsT p)], nx := (1 : Nat) }))) (Tree.ret (Sum.inl (l, i, IntKind.i64.wrap (k + (1 : Int)), p)))) Tree.fail) (Tree.ret (Sum.inr (Ex.ret, { env := [((0 : Nat), AV.p (Part.one (Cell.d insT l))), ((2 : Nat), AV.p (Part.one (Cell.v (Value.bool false)))), ((5 : Nat), AV.p (Part.one (Cell.h (0 : Nat)))), ((8 : Nat), AV.p (Part.one (Cell.v (Value.int IntKind.i64 i))))], hp := [((0 : Nat), Ob.row partsT p)], nx := (1 : Nat) })))) Tree.fail) (Tree.ret (Sum.inl (l, i, IntKind.i64.wrap (k + (1 : Int)), p)))) (Tree.ret (Sum.inl (l, i, IntKind.i64.wrap (k + (1 : Int)), p)))) (Tree.ite ((List.getD l k.toNat noIns).fst != BitVec.ofInt (8 : Nat) (24 : Int)) (Tree.ite ((List.getD l k.toNat noIns).fst != BitVec.ofInt (8 : Nat) (133 : Int)) (Tree.ret (Sum.inl (l, i, IntKind.i64.wrap (k + (1 : Int)), p))) (Tree.ret (Sum.inl (l, i, IntKind.i64.wrap (k + (1 : Int)), p)))) (Tree.ret (Sum.inl (l, i, IntKind.i64.wrap (k + (1 : Int)), p)))))) (Tree.ite (targetB l k) (Tree.ite ((List.getD l k.toNat noIns).fst != BitVec.ofInt (8 : Nat) (24 : Int)) (Tree.ite ((List.getD l k.toNat noIns).fst != BitVec.ofInt (8 : Nat) (133 : Int)) (Tree.ite (decide ((0 : Int) ≤ i) && decide (i < (↑(List.length p) : Int))) (Tree.ite (!decide (targetI l k < (List.getD p i.toNat ((0 : Int), (0 : Int), ())).fst)) (Tree.ite (decide ((0 : Int) ≤ i) && decide (i < (↑(List.length p) : Int))) (Tree.ite (decide ((List.getD p i.toNat ((0 : Int), (0 : Int), ())).snd.fst ≤ targetI l k)) (Tree.ret (Sum.inr (Ex.ret, { env := [((0 : Nat), AV.p (Part.one (Cell.d insT l))), ((2 : Nat), AV.p (Part.one (Cell.v (Value.bool false)))), ((5 : Nat), AV.p (Part.one (Cell.h (0 : Nat)))), ((8 : Nat), AV.p (Part.one (Cell.v (Value.int IntKind.i64 i))))], hp := [((0 : Nat), Ob.row partsT p)], nx := (1 : Nat) }))) (Tree.ret (Sum.inl (l, i, IntKind.i64.wrap (k + (1 : Int)), p)))) Tree.fail) (Tree.ret (Sum.inr (Ex.ret, { env := [((0 : Nat), AV.p (Part.one (Cell.d insT l))), ((2 : Nat), AV.p (Part.one (Cell.v (Value.bool false)))), ((5 : Nat), AV.p (Part.one (Cell.h (0 : Nat)))), ((8 : Nat), AV.p (Part.one (Cell.v (Value.int IntKind.i64 i))))], hp := [((0 : Nat), Ob.row partsT p)], nx := (1 : Nat) })))) Tree.fail) (Tree.ret (Sum.inl (l, i, IntKind.i64.wrap (k + (1 : Int)), p)))) (Tree.ret (Sum.inl (l, i, IntKind.i64.wrap (k + (1 : Int)), p)))) (Tree.ite ((List.getD l k.toNat noIns).fst != BitVec.ofInt (8 : Nat) (24 : Int)) (Tree.ite ((List.getD l k.toNat noIns).fst != BitVec.ofInt (8 : Nat) (133 : Int)) (Tree.ret (Sum.inl (l, i, IntKind.i64.wrap (k + (1 : Int)), p))) (Tree.ret (Sum.inl (l, i, IntKind.i64.wrap (k + (1 : Int)), p)))) (Tree.ret (Sum.inl (l, i, IntKind.i64.wrap (k + (1 : Int)), p)))))) Tree.fail)) Tree.fail) (Tree.ret (Sum.inr (Ex.exit (2 : Nat), { env := [((0 : Nat), AV.p (Part.one (Cell.d insT l))), ((5 : Nat), AV.p (Part.one (Cell.h (0 : Nat)))), ((8 : Nat), AV.p (Part.one (Cell.v (Value.int IntKind.i64 i))))], hp := [((0 : Nat), Ob.row partsT p)], nx := (1 : Nat) })))) Tree.fail
theorem turn_stays2 : ∀ a : A_stays2, (turnT 0 orc_stays2 (evalCode Try.prog (lk L_target) Try.f9.ntmps 0 30 LT_stays (bodyAt c_stays p_stays2) false (0 :: p_stays2)) (sh_stays2.enc (e_stays2 a))).run = ((T_stays2 a).bind fun s => .ret (turnV sh_stays2 e_stays2 s)).run := by
  rintro ⟨l, i, k, p⟩
  kernel_rfl
/-- behind an operation's place -/
noncomputable def stTail (l : Slots) (i k : Int) (p : Parts) (X : BitVec 8) : Tree (A_stays2 ⊕ (Ex × St)) :=
  .ite (targetB l k) (.ite (X != BitVec.ofInt 8 24) (.ite (X != BitVec.ofInt 8 133) (.ite (decide (0 ≤ i) && decide (i < (p.length : Int))) (.ite (!decide (targetI l k < (p.getD i.toNat (0, 0, ())).1)) (.ite (decide (0 ≤ i) && decide (i < (p.length : Int))) (.ite (decide ((p.getD i.toNat (0, 0, ())).2.1 ≤ targetI l k)) (.ret (.inr (.ret, ⟨[(0, .p (.one (.d insT l))), (2, AV.c (.v (.bool false))), (5, .p (.one (.h 0))), (8, AV.c (.v (.int .i64 i)))], [(0, .row partsT p)], 1⟩))) (.ret (.inl (l, i, IntKind.i64.wrap (k + 1), p)))) .fail) (.ret (.inr (.ret, ⟨[(0, .p (.one (.d insT l))), (2, AV.c (.v (.bool false))), (5, .p (.one (.h 0))), (8, AV.c (.v (.int .i64 i)))], [(0, .row partsT p)], 1⟩)))) .fail) (.ret (.inl (l, i, IntKind.i64.wrap (k + 1), p)))) (.ret (.inl (l, i, IntKind.i64.wrap (k + 1), p))))
    (.ite (X != BitVec.ofInt 8 24) (.ite (X != BitVec.ofInt 8 133) (.ret (.inl (l, i, IntKind.i64.wrap (k + 1), p))) (.ret (.inl (l, i, IntKind.i64.wrap (k + 1), p)))) (.ret (.inl (l, i, IntKind.i64.wrap (k + 1), p))))
theorem stTail_run {l : Slots} {i k : Int} {p : Parts} {X : BitVec 8} (hi : 0 ≤ i ∧ i < (p.length : Int)) (h : (X == BitVec.ofInt 8 24) = true ∨ (X == BitVec.ofInt 8 133) = true ∨ (targetB l k = true → (p.getD i.toNat (0, 0, ())).1 ≤ targetI l k ∧ targetI l k < (p.getD i.toNat (0, 0, ())).2.1)) :
    (stTail l i k p X).run = some (.inl (l, i, IntKind.i64.wrap (k + 1), p)) := by
  unfold stTail
  simp only [bne]
  cases ht : targetB l k with
  | false => cases (X == BitVec.ofInt 8 24) <;> cases (X == BitVec.ofInt 8 133) <;> rfl
  | true =>
    refine (goT rfl).trans ?_
    cases c1 : (X == BitVec.ofInt 8 24) with
    | true => rfl
    | false =>
      refine (goTN rfl).trans ?_
      cases c2 : (X == BitVec.ofInt 8 133) with
      | true => rfl
      | false =>
        rw [c1, c2] at h
        rcases h with h | h | h
        · cases h
        · cases h
        · obtain ⟨h1, h2⟩ := h ht
          refine (goTN rfl).trans ?_
          rw [goTa hi, goTn (by omega), goTa hi, goFd (by omega)]; rfl
/-- of a program that is well formed: what lies at a place -/
theorem stay_facts {l : Slots} (h : (chk l).2 = 0) {j k : Nat} (hj : j < (froms l (secs l)).length) (k1 : fnA (froms l (secs l)) l.length j ≤ k) (k2 : k < fnA (froms l (secs l)) l.length (j + 1)) (hk : secB l k = false) :
    ((opA l k == BitVec.ofInt 8 24) = true → k + 2 < fnA (froms l (secs l)) l.length (j + 1)) ∧ ((opA l k == BitVec.ofInt 8 24) = false → k + 1 = fnA (froms l (secs l)) l.length (j + 1) → (opA l k == BitVec.ofInt 8 149) = true ∨ (opA l k == BitVec.ofInt 8 5) = true) ∧
    ((opA l k == BitVec.ofInt 8 24) = false → (opA l k == BitVec.ofInt 8 133) = false → targetB l k = true → (fnA (froms l (secs l)) l.length j : Int) ≤ targetI l k ∧ targetI l k < (fnA (froms l (secs l)) l.length (j + 1) : Int)) := by
  obtain ⟨g0, g1, g2, g3, _⟩ := chk_fine h
  obtain ⟨u1, u2⟩ := fnA_up hj
  obtain ⟨v0, _, _⟩ := subsL_last hj (good_targets g1) (secs0 l)
  have hb := g2 j hj
  have hlast : ∀ z : Int, lastI (secs l) (partOf (subsL l (secs l)) j) = z → (opA l z.toNat == BitVec.ofInt 8 149) = true ∨ (opA l z.toNat == BitVec.ofInt 8 5) = true := fun z hz => by
    unfold endBad at hb
    rw [hz] at hb
    generalize (opA l z.toNat == BitVec.ofInt 8 149) = a at *
    generalize (opA l z.toNat == BitVec.ofInt 8 5) = b at *
    cases a <;> cases b <;> first | exact .inl rfl | exact .inr rfl | cases hb
  have hend : k + 1 = fnA (froms l (secs l)) l.length (j + 1) → (opA l k == BitVec.ofInt 8 149) = true ∨ (opA l k == BitVec.ofInt 8 5) = true := fun e => by
    rw [← e, show (((k + 1 : Nat) : Int) - 1) = (k : Int) by omega, secA_nat (by omega), hk, if_neg (by simp)] at v0
    exact hlast _ v0
  refine ⟨fun ho => ?_, fun _ => hend, fun h24 h133 ht => ?_⟩
  · have n1 : k + 1 ≠ fnA (froms l (secs l)) l.length (j + 1) := fun e => by
      have hx : ∀ x : BitVec 8, (x == BitVec.ofInt 8 24) = true → ¬ ((x == BitVec.ofInt 8 149) = true ∨ (x == BitVec.ofInt 8 5) = true) := by decide +kernel
      exact hx _ ho (hend e)
    have n2 : k + 2 ≠ fnA (froms l (secs l)) l.length (j + 1) := fun e => by
      have hs : secB l (k + 1) = true := by unfold secB; rw [ho, hk]; rfl
      rw [← e, show (((k + 2 : Nat) : Int) - 1) = ((k + 1 : Nat) : Int) by omega, secA_nat (by omega), hs, if_pos rfl, show (((k + 2 : Nat) : Int) - 2) = (k : Int) by omega] at v0
      have hx : ∀ x : BitVec 8, (x == BitVec.ofInt 8 24) = true → ¬ ((x == BitVec.ofInt 8 149) = true ∨ (x == BitVec.ofInt 8 5) = true) := by decide +kernel
      exact hx _ ho (hlast _ v0)
    omega
  · have hn : namesB (slotA l k) = false := by
      unfold namesB
      change ((opA l k == BitVec.ofInt 8 133 && _) || (opA l k == BitVec.ofInt 8 24 && _)) = false
      rw [h24, h133]; rfl
    have hti : targetI l k = jumpI l k := by
      unfold targetI
      rw [show ((k : Int)).toNat = k from rfl, hn]; rfl
    have hjp : jumpsB (opA l k) = true := by
      unfold targetB at ht
      rw [show ((k : Int)).toNat = k from rfl, hn] at ht
      simp only [Bool.and_eq_true, Bool.false_or] at ht
      exact ht.2.2.2.1
    have hl := g3 j hj k k1 k2
    unfold leadBad at hl
    rw [hjp, secA_nat (by omega), hk, subsL_get hj] at hl
    simp only [Bool.not_false, Bool.and_self, Bool.true_and, Bool.or_eq_false_iff, decide_eq_false_iff_not] at hl
    rw [hti]
    omega
def μ_stays2 : A_stays2 → Nat := fun ⟨l, i, k, p⟩ => ((fnA (froms l (secs l)) l.length (i.toNat + 1) : Int) - k).toNat
theorem step_stays2 : ∀ a : A_stays2, I_stays2 a → (∃ a', (T_stays2 a).run = some (.inl a') ∧ I_stays2 a' ∧ μ_stays2 a' < μ_stays2 a ∧ (G_stays2 a').run = (G_stays2 a).run) ∨ (∃ y, (T_stays2 a).run = some (.inr y) ∧ (G_stays2 a).run = some y ∧ ((∃ id, y.1 = .exit id) ∨ y.1 = .ret)) := by
  rintro ⟨l, i, k, p⟩ ⟨h1, h2, h3, h4, rfl, h5, h6, h7⟩
  simp only [T_stays2]
  have hpl := subsL_len l (secs l)
  have hj : i.toNat < (froms l (secs l)).length := by omega
  obtain ⟨u1, u2⟩ := fnA_up hj
  have hP : (subsL l (secs l)).getD i.toNat (0, 0, ()) = _ := subsL_get hj
  have hb : 0 ≤ i ∧ i < ((subsL l (secs l)).length : Int) := ⟨h1, by omega⟩
  rw [goTa hb]
  by_cases hk : k < (fnA (froms l (secs l)) l.length (i.toNat + 1) : Int)
  · left
    have hkt : ((k.toNat : Nat) : Int) = k := by omega
    obtain ⟨f1, f2, f3⟩ := stay_facts h3 hj (k := k.toNat) (by omega) (by omega) h7
    rw [goTd (by rw [hP]; exact hk), goTa ⟨by omega, by omega⟩, wrap64 (n := k + 1) (by omega) (by omega), wrap64 (n := k + 1 + 1) (by omega) (by omega)]
    cases ho : ((l.getD k.toNat noIns).1 == BitVec.ofInt 8 24) with
    | true =>
      have g := f1 ho
      rw [goT rfl, goTa hb, goFe (by rw [hP]; dsimp only; omega)]
      have run := stTail_run (l := l) (i := i) (k := k + 1) (p := subsL l (secs l)) (X := (l.getD k.toNat noIns).1) hb (.inl ho)
      have fin : ∀ T : Tree (A_stays2 ⊕ (Ex × St)), T.run = some (.inl (l, i, k + 1 + 1, subsL l (secs l))) → (∃ a', T.run = some (.inl a') ∧ I_stays2 a' ∧ μ_stays2 a' < μ_stays2 (l, i, k, subsL l (secs l)) ∧ (G_stays2 a').run = (G_stays2 (l, i, k, subsL l (secs l))).run) := fun T hT => by
        refine ⟨_, hT, ⟨h1, h2, h3, h4, rfl, by omega, by omega, ?_⟩, by simp only [μ_stays2]; omega, rfl⟩
        have e1 : secB l (k.toNat + 1) = true := by
          change ((l.getD k.toNat noIns).1 == BitVec.ofInt 8 24 && !secB l k.toNat) = true
          rw [ho, h7]; rfl
        rw [show (k + 1 + 1).toNat = k.toNat + 1 + 1 by omega]
        change (_ && !secB l (k.toNat + 1)) = false
        rw [e1]; simp
      unfold stTail at run
      rw [wrap64 (n := k + 1 + 1) (by omega) (by omega)] at run
      exact fin _ run
    | false =>
      have run := stTail_run (l := l) (i := i) (k := k) (p := subsL l (secs l)) (X := (l.getD k.toNat noIns).1) hb (by
        cases h133 : ((l.getD k.toNat noIns).1 == BitVec.ofInt 8 133) with
        | true => exact .inr (.inl rfl)
        | false => exact .inr (.inr fun ht => by rw [hP]; have := f3 ho h133 (by rw [hkt]; exact ht); rw [hkt] at this; exact this))
      have fin : ∀ T : Tree (A_stays2 ⊕ (Ex × St)), T.run = some (.inl (l, i, k + 1, subsL l (secs l))) → (∃ a', T.run = some (.inl a') ∧ I_stays2 a' ∧ μ_stays2 a' < μ_stays2 (l, i, k, subsL l (secs l)) ∧ (G_stays2 a').run = (G_stays2 (l, i, k, subsL l (secs l))).run) := fun T hT => by
        refine ⟨_, hT, ⟨h1, h2, h3, h4, rfl, by omega, by omega, ?_⟩, by simp only [μ_stays2]; omega, rfl⟩
        rw [show (k + 1).toNat = k.toNat + 1 by omega]
        change ((l.getD k.toNat noIns).1 == BitVec.ofInt 8 24 && !secB l k.toNat) = false
        rw [ho]; rfl
      unfold stTail at run
      rw [wrap64 (n := k + 1) (by omega) (by omega)] at run
      rw [goF rfl, goTa hb]
      by_cases he : k + 1 = (fnA (froms l (secs l)) l.length (i.toNat + 1) : Int)
      · rw [goTe (by rw [hP]; exact he)]
        rcases f2 ho (by omega) with e | e
        · change ((l.getD k.toNat noIns).1 == BitVec.ofInt 8 149) = true at e
          rw [goF (by simp only [bne]; rw [e]; rfl)]
          exact fin _ run
        · change ((l.getD k.toNat noIns).1 == BitVec.ofInt 8 5) = true at e
          have e2 : ((l.getD k.toNat noIns).1 == BitVec.ofInt 8 149) = false := by
            have hx : ∀ x : BitVec 8, (x == BitVec.ofInt 8 5) = true → (x == BitVec.ofInt 8 149) = false := by decide +kernel
            exact hx _ e
          rw [goT (by simp only [bne]; rw [e2]; rfl), goF (by simp only [bne]; rw [e]; rfl)]
          exact fin _ run
      · rw [goFe (by rw [hP]; exact he)]
        exact fin _ run
  · right
    rw [goFd (by rw [hP]; exact hk)]
    exact ⟨_, rfl, rfl, .inl ⟨2, rfl⟩⟩
noncomputable def T_stays1 : Slots × Int × Parts → Tree (A_stays1 ⊕ (Ex × St)) := fun ⟨l, i, p⟩ => 
Tree.ite (decide (i < (↑(List.length p) : Int))) (Tree.ite (decide ((0 : Int) ≤ i) && decide (i < (↑(List.length p) : Int))) (Tree.ite (decide ((0 : Int) ≤ i) && decide (i < (↑(List.length p) : Int))) (Tree.ite (!decide ((List.getD p i.toNat ((0 : Int), (0 : Int), ())).snd.fst ≤ (List.getD p i.toNat ((0 : Int), (0 : Int), ())).fst)) (Tree.ite (decide ((0 : Int) < i)) (Tree.ite (decide ((0 : Int) ≤ IntKind.i64.wrap (i - (1 : Int))) && decide (IntKind.i64.wrap (i - (1 : Int)) < (↑(List.length p) : Int))) (Tree.ite (decide ((0 : Int) ≤ i) && decide (i < (↑(List.length p) : Int))) (Tree.ite ((List.getD p (IntKind.i64.wrap (i - (1 : Int))).toNat ((0 : Int), (0 : Int), ())).snd.fst != (List.getD p i.toNat ((0 : Int), (0 : Int), ())).fst) (Tree.ret (Sum.inr (Ex.ret, { env := [((2 : Nat), AV.p (Part.one (Cell.v (Value.bool false))))], hp := [], nx := (0 : Nat) }))) (Tree.ite (decide ((0 : Int) ≤ i) && decide (i < (↑(List.length p) : Int))) (Tree.ite (decC ((0 : Int) ≤ i ∧ i < (↑(froms l (secs l)).length : Int) ∧ (chk l).snd = (0 : Int) ∧ List.length l ≤ (400 : Nat) ∧ p = subsL l (secs l) ∧ (↑(fnA (froms l (secs l)) (List.length l) i.toNat) : Int) ≤ (List.getD p i.toNat ((0 : Int), (0 : Int), ())).fst ∧ (List.getD p i.toNat ((0 : Int), (0 : Int), ())).fst ≤ (↑(fnA (froms l (secs l)) (List.length l) (i.toNat + (1 : Nat))) : Int) ∧ secB l (Int.toNat (List.getD p i.toNat ((0 : Int), (0 : Int), ())).fst) = false)) (Tree.ret (Sum.inl (l, IntKind.i64.wrap (i + (1 : Int)), p))) Tree.fail) Tree.fail)) Tree.fail) Tree.fail) (Tree.ite (decide ((0 : Int) ≤ i) && decide (i < (↑(List.length p) : Int))) (Tree.ite (decC ((0 : Int) ≤ i ∧ i < (↑(froms l (secs l)).length : Int) ∧ (chk l).snd = (0 : Int) ∧ List.length l ≤ (400 : Nat) ∧ p = subsL l (secs l) ∧ (↑(fnA (froms l (secs l)) (List.length l) i.toNat) : Int) ≤ (List.getD p i.toNat ((0 : Int), (0 : Int), ())).fst ∧ (List.getD p i.toNat ((0 : Int), (0 : Int), ())).fst ≤ (↑(fnA (froms l (secs l)) (List.length l) (i.toNat + (1 : Nat))) : Int) ∧ secB l (Int.toNat (List.getD p i.toNat ((0 : Int), (0 : Int), ())).fst) = false)) (Tree.ret (Sum.inl (l, IntKind.i64.wrap (i + (1 : Int)), p))) Tree.fail) Tree.fail)) (Tree.ret (Sum.inr (Ex.ret, { env := [((2 : Nat), AV.p (Part.one (Cell.v (Value.bool false))))], hp := [], nx := (0 : Nat) })))) Tree.fail) Tree.fail) (Tree.ret (Sum.inr (Ex.exit (0 : Nat), { env := [], hp := [], nx := (0 : Nat) })))
theorem turn_stays1 : ∀ a : A_stays1, (turnT 0 orc_stays1 (evalCode Try.prog (lk L_target) Try.f9.ntmps 0 30 LT_stays (bodyAt c_stays p_stays1) false (0 :: p_stays1)) (sh_stays1.enc (e_stays1 a))).run = ((T_stays1 a).bind fun s => .ret (turnV sh_stays1 e_stays1 s)).run := by
  rintro ⟨l, i, p⟩
  kernel_rfl

def μ_stays1 : A_stays1 → Nat := fun ⟨l, i, p⟩ => p.length - i.toNat
theorem step_stays1 : ∀ a : A_stays1, I_stays1 a → (∃ a', (T_stays1 a).run = some (.inl a') ∧ I_stays1 a' ∧ μ_stays1 a' < μ_stays1 a ∧ (G_stays1 a').run = (G_stays1 a).run) ∨ (∃ y, (T_stays1 a).run = some (.inr y) ∧ (G_stays1 a).run = some y ∧ ((∃ id, y.1 = .exit id) ∨ y.1 = .ret)) := by
  rintro ⟨l, i, p⟩ ⟨h1, h2, h3, rfl⟩
  simp only [T_stays1]
  have hpl := subsL_len l (secs l)
  have hfl := froms_len l (secs l)
  by_cases hi : i < (subsL l (secs l)).length
  · left
    have hj : i.toNat < (froms l (secs l)).length := by omega
    obtain ⟨u1, u2⟩ := fnA_up hj
    obtain ⟨g0, g1, _⟩ := chk_fine h2
    have hP : (subsL l (secs l)).getD i.toNat (0, 0, ()) = _ := subsL_get hj
    rw [goTd hi, goTa ⟨h1, hi⟩, goTa ⟨h1, hi⟩, hP, goTn (by dsimp only; omega), wrap64 (n := i + 1) (by omega) (by omega)]
    have hs : secB l ((fnA (froms l (secs l)) l.length i.toNat : Int)).toNat = false := by
      have := fnA_first hj (good_targets g1) (secs0 l)
      rw [secA_nat (by omega)] at this
      exact this
    by_cases h0 : 0 < i
    · have hP0 : (subsL l (secs l)).getD (i - 1).toNat (0, 0, ()) = _ := subsL_get (j := (i - 1).toNat) (by omega)
      rw [goTd h0, wrap64 (n := i - 1) (by omega) (by omega), goTa ⟨by omega, by omega⟩, goTa ⟨h1, hi⟩, hP0, goFne (by rw [show (i - 1).toNat + 1 = i.toNat by omega]), goTa ⟨h1, hi⟩]
      refine ⟨_, (goT (decP ⟨h1, by omega, h2, h3, trivial, Int.le_refl _, by dsimp only; omega, hs⟩)).trans rfl, ⟨by omega, h2, h3, rfl⟩, by simp only [μ_stays1]; omega, rfl⟩
    · rw [goFd h0, goTa ⟨h1, hi⟩]
      refine ⟨_, (goT (decP ⟨h1, by omega, h2, h3, trivial, Int.le_refl _, by dsimp only; omega, hs⟩)).trans rfl, ⟨by omega, h2, h3, rfl⟩, by simp only [μ_stays1]; omega, rfl⟩
  · right
    rw [goFd hi]
    exact ⟨_, rfl, rfl, .inl ⟨0, rfl⟩⟩
theorem lok_stays : LOk Try.prog (lk L_target) Try.f9.ntmps 0 30 LT_stays c_stays := lok_view (lok_view (noL_ok2 _ _ _ _ _ _ _) (by kernel_rfl) e_stays2 (by rintro ⟨⟨l, ⟨⟩, i, k, ⟨⟩⟩, ⟨p, ⟨⟩⟩⟩; exact ⟨(l, i, k, p), rfl⟩) T_stays2 turn_stays2 I_stays2 G_stays2 (by rintro ⟨l, i, k, p⟩; rfl) μ_stays2 step_stays2) (by kernel_rfl) e_stays1 (by rintro ⟨⟨l, ⟨⟩, i, ⟨⟩⟩, ⟨p, ⟨⟩⟩⟩; exact ⟨(l, i, p), rfl⟩) T_stays1 turn_stays1 I_stays1 G_stays1 (by rintro ⟨l, i, p⟩; rfl) μ_stays1 step_stays1
noncomputable def E_stays : Slots → Tree (AV × List Ob) := fun l => 
Tree.ite (decide ((400 : Int) < (↑(List.length l) : Int))) (Tree.ret (AV.p (Part.one (Cell.v (Value.bool true))), [])) (Tree.ite (decC (List.length l ≤ (140737488355328 : Nat))) (Tree.ite (decC (List.length l ≤ (140737488355328 : Nat))) (Tree.ite ((chk l).snd != (0 : Int)) (Tree.ret (AV.p (Part.one (Cell.v (Value.bool true))), [])) (Tree.ite (!(sbs l).snd.snd != (0 : Int)) (Tree.ite (!(↑(List.length (sbs l).fst) : Int) == (0 : Int)) (Tree.ite (true && decide ((0 : Int) < (↑(List.length (sbs l).fst) : Int))) (Tree.ite (!(List.getD (sbs l).fst (0 : Nat) ((0 : Int), (0 : Int), ())).fst != (0 : Int)) (Tree.ite (decide ((0 : Int) ≤ IntKind.i64.wrap ((↑(List.length (sbs l).fst) : Int) - (1 : Int))) && decide (IntKind.i64.wrap ((↑(List.length (sbs l).fst) : Int) - (1 : Int)) < (↑(List.length (sbs l).fst) : Int))) (Tree.ite ((List.getD (sbs l).fst (IntKind.i64.wrap ((↑(List.length (sbs l).fst) : Int) - (1 : Int))).toNat ((0 : Int), (0 : Int), ())).snd.fst != (↑(List.length l) : Int)) (Tree.ret (AV.p (Part.one (Cell.v (Value.bool false))), [])) (Tree.ite (decC ((0 : Int) ≤ (0 : Int) ∧ (chk l).snd = (0 : Int) ∧ List.length l ≤ (400 : Nat) ∧ (sbs l).fst = subsL l (secs l))) (Tree.ret (AV.p (Part.one (Cell.v (Value.bool true))), [])) Tree.fail)) Tree.fail) (Tree.ret (AV.p (Part.one (Cell.v (Value.bool false))), []))) Tree.fail) (Tree.ret (AV.p (Part.one (Cell.v (Value.bool false))), []))) (Tree.ret (AV.p (Part.one (Cell.v (Value.bool false))), [])))) Tree.fail) Tree.fail)
theorem ev_stays (l : Slots) : (evalFnL Try.prog (lk L_target) 30 LT_stays Try.f9 c_stays [] [.p (.one (.d insT l))] []).run = (E_stays l).run := by kernel_rfl

theorem true_stays (l : Slots) (hok : okS [.one (.sl insT)] (l, ())) : (E_stays l).run = some (AV.b true, []) := by
  dsimp only [E_stays]
  by_cases g1 : 400 < l.length
  · exact goTd (by omega)
  refine (goFd (by omega)).trans ((goT (decP (by omega))).trans ((goT (decP (by omega))).trans ?_))
  by_cases g2 : (chk l).2 = 0
  · refine (goFne g2).trans ?_
    obtain ⟨g0, _, _, _, g5⟩ := chk_fine g2
    have hz := fnA_zero (l := l) (b := secs l) (by omega)
    have hpl := subsL_len l (secs l)
    have hfl := froms_len l (secs l)
    rw [g5]
    dsimp only
    have hP0 : (subsL l (secs l)).getD 0 (0, 0, ()) = _ := subsL_get (j := 0) hz.2
    have hP1 : (subsL l (secs l)).getD ((froms l (secs l)).length - 1) (0, 0, ()) = _ := subsL_get (by omega)
    refine (goT (by rfl)).trans ((goTN (beq_false_of_ne (by omega))).trans ((goT (by rw [Bool.true_and, decide_eq_true_eq]; omega)).trans ?_))
    rw [hP0, hz.1]
    refine (goT (by rfl)).trans ?_
    rw [wrap64 (by omega) (by omega), show (((subsL l (secs l)).length : Int) - 1).toNat = (froms l (secs l)).length - 1 by omega, hP1]
    rw [goTa ⟨by omega, by omega⟩, goFne (by rw [show (froms l (secs l)).length - 1 + 1 = (froms l (secs l)).length by omega, fnA_end (Nat.lt_irrefl _)]), goT (decP ⟨Int.le_refl 0, g2, by omega, rfl⟩)]
    rfl
  · exact goTne g2
theorem lifted_stays (os : Os) (started : os.Started) : ∀ {H : Type} (enc : TypeId × Value → H), ReturnsInHanded {} Try.checked os 9 .any (Rows.insnStaysSpec.pre6 enc Try.prog Try.f9 [] false) (Rows.insnStaysSpec.post enc Try.prog Try.f9 false true false false) := by
  intro H enc
  refine law_lifted (by kernel_rfl) (by kernel_rfl) started (by kernel_rfl) Try.func9 rfl ?_ rfl (by kernel_rfl) ?_
    (ChangeSpec.witness6 (enc := enc) (C := Try.checked) false ⟨#[], #[.slice none 0 0], []⟩ 8 (by kernel_rfl) (by kernel_rfl) (by kernel_rfl) (by kernel_rfl)) ?_
  · exact of_decide_eq_true (by kernel_rfl)
  · intro ds hds
    match ds, hds with
    | [d0], _ => rfl
  · intro W base args ds before hval htrod
    refine law_data (K := Kn) tok_target Try.checked.mixed Try.func9 (by rfl) 30 4 (rc := []) (sh := [.one (.sl insT)]) (by kernel_rfl) ?_ W trivial base args ds before hval htrod
    rintro ⟨l, ⟨⟩⟩ hok
    exact ⟨LT_stays, lok_stays, (ev_stays l).trans (true_stays l hok)⟩
theorem over_stays : Rows.insnStaysRow.holds Try.pinned (OpenSpec.ofChange Rows.insnStaysSpec) :=
  OpenClaim.holds_of_wide 9 Try.f9 rfl rfl rfl rfl rfl rfl rfl ⟨rfl, rfl, rfl, rfl, rfl⟩ rfl rfl rfl rfl rfl (by kernel_rfl) Try.func9 (by kernel_rfl)
    (of_decide_eq_true (by kernel_rfl)) (by unfold Func.isWrapper; first | (rw [if_pos (by decide +kernel)]; kernel_rfl) | (rw [if_neg (by decide +kernel)]; exact ⟨rfl, rfl⟩))
    (fun os started H enc _ => lifted_stays os started enc)
theorem holds_stays : Rows.InsnStaysSaid := over_stays
end Go.Proofs.Ythcfemfljholbaa.insk
