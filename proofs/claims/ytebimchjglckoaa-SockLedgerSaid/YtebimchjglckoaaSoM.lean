/-
  The law of a ledger's events (written by our own gen_som.py).
-/
import Derived.Test.YtebimchjglckoaaSoH
import Derived.Test.YtebimchjglckoaaSoW
import Derived.Test.YtebimchjglckoaaRows
namespace Go.Proofs.Ytebimchjglckoaa.led
open Go Go.Sy Go.Sz Go.So Go.Proofs.Ytebimchjglckoaa
set_option linter.unusedVariables false
set_option linter.unusedSimpArgs false
set_option linter.constructorNameAsVariable false
set_option maxRecDepth 100000

noncomputable abbrev c_law : Code := Try.f5.body.getD .skip
def p_law1 : List Nat := [0, 1, 0, 1, 1, 1, 1]
def sh_law1 : Shape := ⟨[(0, .c (.d stpT)), (1, .c (.i .i64)), (5, .c (.p 0 0)), (6, .c (.i .i64))], [.lit [.i .i64, .h 1, .h 2], .mp (.i .i64) heldT, .row evT]⟩
@[reducible] def A_law1 : Type := Int × Helds × Evs × Stps × Int × Int
def e_law1 : A_law1 → sh_law1.den := fun ⟨x, m, e, l, n, i⟩ => ((l, n, (), i, ()), ((x, (), (), ()), m, e, ()))
def v_law1 : sh_law1.den → A_law1 := fun d => match d with
  | ((l, n, (), i, ()), ((x, (), (), ()), m, e, ())) => (x, m, e, l, n, i)
def I_law1 : A_law1 → Prop := fun ⟨x, m, e, l, n, i⟩ => LedI (x, m, e) ∧ 0 ≤ i ∧ i ≤ n ∧ n ≤ 300 ∧ (e.length : Int) ≤ i ∧ x ≤ i ∧ (m.length : Int) = min i 256
noncomputable def G_law1 : A_law1 → Tree (Ex × St) := fun ⟨x, m, e, l, n, i⟩ => .ret (.exit 0, ⟨[(0, .p (.one (.d stpT l))), (5, .p (.one (.p 0 0)))], [(0, .lit [.v (.int .i64 (acqN (n - i).toNat i (x, m, e)).1), .h 1, .h 2]), (1, .mp (.i .i64) heldT (acqN (n - i).toNat i (x, m, e)).2.1), (2, .row evT (acqN (n - i).toNat i (x, m, e)).2.2)], 3⟩)
noncomputable def orc_law1 : Orc := ⟨sh_law1, [(1000002, evT)], [0, 5], [], fun d => ckP (I_law1 (v_law1 d)) (G_law1 (v_law1 d))⟩
def p_law2 : List Nat := [0, 1, 0, 1, 1, 1, 1, 1]
def sh_law2 : Shape := ⟨[(0, .c (.d stpT)), (5, .c (.p 0 0)), (9, .c (.i .i64))], [.lit [.i .i64, .h 1, .h 2], .mp (.i .i64) heldT, .row evT]⟩
@[reducible] def A_law2 : Type := Int × Helds × Evs × Stps × Int
def e_law2 : A_law2 → sh_law2.den := fun ⟨x, m, e, l, i⟩ => ((l, (), i, ()), ((x, (), (), ()), m, e, ()))
def v_law2 : sh_law2.den → A_law2 := fun d => match d with
  | ((l, (), i, ()), ((x, (), (), ()), m, e, ())) => (x, m, e, l, i)
def I_law2 : A_law2 → Prop := fun ⟨x, m, e, l, i⟩ => LedI (x, m, e) ∧ 0 ≤ i ∧ i ≤ l.length ∧ l.length ≤ 60 ∧ (e.length : Int) ≤ 300 + i ∧ x ≤ 300 + i
noncomputable def G_law2 : A_law2 → Tree (Ex × St) := fun ⟨x, m, e, l, i⟩ => .ret (.exit 2, ⟨[(5, .p (.one (.p 0 0)))], [(0, .lit [.v (.int .i64 ((l.drop i.toNat).foldl stepL (x, m, e)).1), .h 1, .h 2]), (1, .mp (.i .i64) heldT ((l.drop i.toNat).foldl stepL (x, m, e)).2.1), (2, .row evT ((l.drop i.toNat).foldl stepL (x, m, e)).2.2)], 3⟩)
noncomputable def orc_law2 : Orc := ⟨sh_law2, [], [5], [], fun d => ckP (I_law2 (v_law2 d)) (G_law2 (v_law2 d))⟩
def p_law6 : List Nat := [0, 1, 0, 1, 1, 0, 0, 1, 0, 0, 1, 0, 1, 1, 1, 1, 1, 1, 1, 1, 1]
def sh_law6 : Shape := ⟨[(5, .c (.p 0 0)), (10, .c (.h 1)), (11, .c (.h 2)), (12, .c (.i .i64)), (13, .c (.i .i64)), (14, .c (.i .i64)), (15, .c (.i .i64))], [.lit [.i .i64, .h 3, .h 4], .row evT, .row intsT, .mp (.i .i64) heldT, .row evT]⟩
@[reducible] def A_law6 : Type := Int × Helds × Evs × Evs × Ints × Int × Int × Int × Int
def e_law6 : A_law6 → sh_law6.den := fun ⟨x, m, e, v, h, y, i, t, k⟩ => (((), (), (), y, i, t, k, ()), ((x, (), (), ()), v, h, m, e, ()))
def v_law6 : sh_law6.den → A_law6 := fun d => match d with
  | (((), (), (), y, i, t, k, ()), ((x, (), (), ()), v, h, m, e, ())) => (x, m, e, v, h, y, i, t, k)
def I_law6 : A_law6 → Prop := fun ⟨x, m, e, v, h, y, i, t, k⟩ => 0 ≤ i ∧ i < v.length ∧ 0 ≤ k ∧ k ≤ h.length ∧ h.length ≤ 1000000
noncomputable def G_law6 : A_law6 → Tree (Ex × St) := fun ⟨x, m, e, v, h, y, i, t, k⟩ => .ret (.exit 6, ⟨[(5, .p (.one (.p 0 0))), (10, .p (.one (.h 1))), (11, .p (.one (.h 2))), (12, .p (.one (.v (.int .i64 (y))))), (13, .p (.one (.v (.int .i64 (i))))), (14, .p (.one (.v (.int .i64 (lastF (v.getD i.toNat (false, 0, 0, ())).2.1 (h.drop k.toNat) k t)))))], [(0, .lit [.v (.int .i64 x), .h 3, .h 4]), (1, .row evT v), (2, .row intsT h), (3, .mp (.i .i64) heldT m), (4, .row evT e)], 5⟩)
noncomputable def orc_law6 : Orc := ⟨sh_law6, [], [5, 10, 11, 12, 13, 14], [], fun d => ckP (I_law6 (v_law6 d)) (G_law6 (v_law6 d))⟩
def p_law4 : List Nat := [0, 1, 0, 1, 1, 1, 1, 1, 1, 1, 1, 1]
def sh_law4 : Shape := ⟨[(5, .c (.p 0 0)), (10, .c (.h 1)), (11, .c (.h 2)), (12, .c (.i .i64)), (13, .c (.i .i64))], [.lit [.i .i64, .h 3, .h 4], .row evT, .row intsT, .mp (.i .i64) heldT, .row evT]⟩
@[reducible] def A_law4 : Type := Int × Helds × Evs × Evs × Ints × Int × Int
def e_law4 : A_law4 → sh_law4.den := fun ⟨x, m, e, v, h, y, i⟩ => (((), (), (), y, i, ()), ((x, (), (), ()), v, h, m, e, ()))
def v_law4 : sh_law4.den → A_law4 := fun d => match d with
  | (((), (), (), y, i, ()), ((x, (), (), ()), v, h, m, e, ())) => (x, m, e, v, h, y, i)
def I_law4 : A_law4 → Prop := fun ⟨x, m, e, v, h, y, i⟩ => v.length ≤ 1000 ∧ 0 ≤ i ∧ i ≤ v.length ∧ (h.length : Int) ≤ i ∧ 0 ≤ y ∧ y ≤ i + 1 ∧ replay (y, h) (v.drop i.toNat) = some (x + 1, ids m)
noncomputable def G_law4 : A_law4 → Tree (Ex × St) := fun ⟨x, m, e, v, h, y, i⟩ => .ret (.exit 4, ⟨[(5, .p (.one (.p 0 0))), (11, .p (.one (.h 1)))], [(0, .lit [.v (.int .i64 x), .h 2, .h 3]), (1, .row intsT (ids m)), (2, .mp (.i .i64) heldT m), (3, .row evT e)], 4⟩)
noncomputable def orc_law4 : Orc := ⟨sh_law4, [(11, intsT)], [5, 11], [], fun d => ckP (I_law4 (v_law4 d)) (G_law4 (v_law4 d))⟩
noncomputable def LT_law : LT := oneL p_law1 orc_law1 (oneL p_law2 orc_law2 (oneL p_law6 orc_law6 (oneL p_law4 orc_law4 (noL))))
noncomputable def T_law4 : Int × Helds × Evs × Evs × Ints × Int × Int → Tree (A_law4 ⊕ (Ex × St)) := fun ⟨x, m, e, v, h, y, i⟩ => 
Tree.ite (decide (i < (↑(List.length v) : Int))) (Tree.ite (decide ((0 : Int) ≤ i) && decide (i < (↑(List.length v) : Int))) (Tree.ite (!(List.getD v i.toNat (false, (0 : Int), (0 : Int), ())).fst) (Tree.ite (decide ((0 : Int) ≤ i) && decide (i < (↑(List.length v) : Int))) (Tree.ite ((List.getD v i.toNat (false, (0 : Int), (0 : Int), ())).snd.fst != y) (Tree.ret (Sum.inr (Ex.ret, { env := [((5 : Nat), AV.p (Part.one (Cell.p (0 : Nat) (0 : Nat)))), ((11 : Nat), AV.p (Part.one (Cell.h (1 : Nat))))], hp := [((0 : Nat), Ob.lit [Cell.v (Value.int IntKind.i64 x), Cell.h (2 : Nat), Cell.h (3 : Nat)]), ((1 : Nat), Ob.row intsT h), ((2 : Nat), Ob.mp (Ty.i IntKind.i64) heldT m), ((3 : Nat), Ob.row evT e)], nx := (4 : Nat) }))) (Tree.ite (decide ((0 : Int) ≤ i) && decide (i < (↑(List.length v) : Int))) (Tree.ite (bytesOk (List.length h + (1 : Nat)) (8 : Nat) && (List.length h + (1 : Nat)).ble (140737488355328 : Nat)) (Tree.ret (Sum.inl (x, m, e, v, h ++ [((List.getD v i.toNat (false, (0 : Int), (0 : Int), ())).snd.fst, ())], IntKind.i64.wrap (y + (1 : Int)), IntKind.i64.wrap (i + (1 : Int))))) Tree.fail) Tree.fail)) Tree.fail) (Tree.ite (decC ((0 : Int) ≤ i ∧ i < (↑(List.length v) : Int) ∧ (0 : Int) ≤ (0 : Int) ∧ (0 : Int) ≤ (↑(List.length h) : Int) ∧ List.length h ≤ (1000000 : Nat))) (Tree.ite (decide (lastF (List.getD v i.toNat (false, (0 : Int), (0 : Int), ())).snd.fst (List.drop (0 : Nat) h) (0 : Int) (-1 : Int) < (0 : Int))) (Tree.ret (Sum.inr (Ex.ret, { env := [((5 : Nat), AV.p (Part.one (Cell.p (0 : Nat) (0 : Nat)))), ((11 : Nat), AV.p (Part.one (Cell.h (1 : Nat))))], hp := [((0 : Nat), Ob.lit [Cell.v (Value.int IntKind.i64 x), Cell.h (2 : Nat), Cell.h (3 : Nat)]), ((1 : Nat), Ob.row intsT h), ((2 : Nat), Ob.mp (Ty.i IntKind.i64) heldT m), ((3 : Nat), Ob.row evT e)], nx := (4 : Nat) }))) (Tree.ite (decide ((0 : Int) ≤ lastF (List.getD v i.toNat (false, (0 : Int), (0 : Int), ())).snd.fst (List.drop (0 : Nat) h) (0 : Int) (-1 : Int)) && decide (lastF (List.getD v i.toNat (false, (0 : Int), (0 : Int), ())).snd.fst (List.drop (0 : Nat) h) (0 : Int) (-1 : Int) ≤ (↑(List.length h) : Int))) (Tree.ite (decide ((0 : Int) ≤ lastF (List.getD v i.toNat (false, (0 : Int), (0 : Int), ())).snd.fst (List.drop (0 : Nat) h) (0 : Int) (-1 : Int)) && decide (lastF (List.getD v i.toNat (false, (0 : Int), (0 : Int), ())).snd.fst (List.drop (0 : Nat) h) (0 : Int) (-1 : Int) ≤ (↑(lastF (List.getD v i.toNat (false, (0 : Int), (0 : Int), ())).snd.fst (List.drop (0 : Nat) h) (0 : Int) (-1 : Int)).toNat : Int))) (Tree.ite (decide ((0 : Int) ≤ IntKind.i64.wrap (lastF (List.getD v i.toNat (false, (0 : Int), (0 : Int), ())).snd.fst (List.drop (0 : Nat) h) (0 : Int) (-1 : Int) + (1 : Int))) && decide (IntKind.i64.wrap (lastF (List.getD v i.toNat (false, (0 : Int), (0 : Int), ())).snd.fst (List.drop (0 : Nat) h) (0 : Int) (-1 : Int) + (1 : Int)) ≤ (↑(List.length h) : Int))) (Tree.ite (((0 : Nat) + ((lastF (List.getD v i.toNat (false, (0 : Int), (0 : Int), ())).snd.fst (List.drop (0 : Nat) h) (0 : Int) (-1 : Int)).toNat - (0 : Nat))).ble (List.length h) && (true && (((0 : Nat) + ((lastF (List.getD v i.toNat (false, (0 : Int), (0 : Int), ())).snd.fst (List.drop (0 : Nat) h) (0 : Int) (-1 : Int)).toNat - (0 : Nat))).ble (lastF (List.getD v i.toNat (false, (0 : Int), (0 : Int), ())).snd.fst (List.drop (0 : Nat) h) (0 : Int) (-1 : Int)).toNat && (lastF (List.getD v i.toNat (false, (0 : Int), (0 : Int), ())).snd.fst (List.drop (0 : Nat) h) (0 : Int) (-1 : Int)).toNat.ble (List.length h)))) (Tree.ite (((IntKind.i64.wrap (lastF (List.getD v i.toNat (false, (0 : Int), (0 : Int), ())).snd.fst (List.drop (0 : Nat) h) (0 : Int) (-1 : Int) + (1 : Int))).toNat + (List.length h - (IntKind.i64.wrap (lastF (List.getD v i.toNat (false, (0 : Int), (0 : Int), ())).snd.fst (List.drop (0 : Nat) h) (0 : Int) (-1 : Int) + (1 : Int))).toNat)).ble (List.length h) && (true && ((List.length h - (IntKind.i64.wrap (lastF (List.getD v i.toNat (false, (0 : Int), (0 : Int), ())).snd.fst (List.drop (0 : Nat) h) (0 : Int) (-1 : Int) + (1 : Int))).toNat).beq (0 : Nat) || true))) (Tree.ite (bytesOk ((List.take ((0 : Nat) + ((lastF (List.getD v i.toNat (false, (0 : Int), (0 : Int), ())).snd.fst (List.drop (0 : Nat) h) (0 : Int) (-1 : Int)).toNat - (0 : Nat)) - (0 : Nat)) (List.drop (0 : Nat) h)).length + (List.take ((IntKind.i64.wrap (lastF (List.getD v i.toNat (false, (0 : Int), (0 : Int), ())).snd.fst (List.drop (0 : Nat) h) (0 : Int) (-1 : Int) + (1 : Int))).toNat + (List.length h - (IntKind.i64.wrap (lastF (List.getD v i.toNat (false, (0 : Int), (0 : Int), ())).snd.fst (List.drop (0 : Nat) h) (0 : Int) (-1 : Int) + (1 : Int))).toNat) - (IntKind.i64.wrap (lastF (List.getD v i.toNat (false, (0 : Int), (0 : Int), ())).snd.fst (List.drop (0 : Nat) h) (0 : Int) (-1 : Int) + (1 : Int))).toNat) (List.drop (IntKind.i64.wrap (lastF (List.getD v i.toNat (false, (0 : Int), (0 : Int), ())).snd.fst (List.drop (0 : Nat) h) (0 : Int) (-1 : Int) + (1 : Int))).toNat h)).length) (8 : Nat) && ((List.take ((0 : Nat) + ((lastF (List.getD v i.toNat (false, (0 : Int), (0 : Int), ())).snd.fst (List.drop (0 : Nat) h) (0 : Int) (-1 : Int)).toNat - (0 : Nat)) - (0 : Nat)) (List.drop (0 : Nat) h)).length + (List.take ((IntKind.i64.wrap (lastF (List.getD v i.toNat (false, (0 : Int), (0 : Int), ())).snd.fst (List.drop (0 : Nat) h) (0 : Int) (-1 : Int) + (1 : Int))).toNat + (List.length h - (IntKind.i64.wrap (lastF (List.getD v i.toNat (false, (0 : Int), (0 : Int), ())).snd.fst (List.drop (0 : Nat) h) (0 : Int) (-1 : Int) + (1 : Int))).toNat) - (IntKind.i64.wrap (lastF (List.getD v i.toNat (false, (0 : Int), (0 : Int), ())).snd.fst (List.drop (0 : Nat) h) (0 : Int) (-1 : Int) + (1 : Int))).toNat) (List.drop (IntKind.i64.wrap (lastF (List.getD v i.toNat (false, (0 : Int), (0 : Int), ())).snd.fst (List.drop (0 : Nat) h) (0 : Int) (-1 : Int) + (1 : Int))).toNat h)).length).ble (140737488355328 : Nat)) (Tree.ret (Sum.inl (x, m, e, v, List.take ((0 : Nat) + ((lastF (List.getD v i.toNat (false, (0 : Int), (0 : Int), ())).snd.fst (List.drop (0 : Nat) h) (0 : Int) (-1 : Int)).toNat - (0 : Nat)) - (0 : Nat)) (List.drop (0 : Nat) h) ++ List.take ((IntKind.i64.wrap (lastF (List.getD v i.toNat (false, (0 : Int), (0 : Int), ())).snd.fst (List.drop (0 : Nat) h) (0 : Int) (-1 : Int) + (1 : Int))).toNat + (List.length h - (IntKind.i64.wrap (lastF (List.getD v i.toNat (false, (0 : Int), (0 : Int), ())).snd.fst (List.drop (0 : Nat) h) (0 : Int) (-1 : Int) + (1 : Int))).toNat) - (IntKind.i64.wrap (lastF (List.getD v i.toNat (false, (0 : Int), (0 : Int), ())).snd.fst (List.drop (0 : Nat) h) (0 : Int) (-1 : Int) + (1 : Int))).toNat) (List.drop (IntKind.i64.wrap (lastF (List.getD v i.toNat (false, (0 : Int), (0 : Int), ())).snd.fst (List.drop (0 : Nat) h) (0 : Int) (-1 : Int) + (1 : Int))).toNat h), y, IntKind.i64.wrap (i + (1 : Int))))) Tree.fail) Tree.fail) Tree.fail) Tree.fail) Tree.fail) Tree.fail)) Tree.fail)) Tree.fail) (Tree.ret (Sum.inr (Ex.exit (4 : Nat), { env := [((5 : Nat), AV.p (Part.one (Cell.p (0 : Nat) (0 : Nat)))), ((11 : Nat), AV.p (Part.one (Cell.h (1 : Nat))))], hp := [((0 : Nat), Ob.lit [Cell.v (Value.int IntKind.i64 x), Cell.h (2 : Nat), Cell.h (3 : Nat)]), ((1 : Nat), Ob.row intsT h), ((2 : Nat), Ob.mp (Ty.i IntKind.i64) heldT m), ((3 : Nat), Ob.row evT e)], nx := (4 : Nat) })))
theorem turn_law4 : ∀ a : A_law4, (turnT 0 orc_law4 (evalCode Try.prog (lk L_held) Try.f5.ntmps 0 30 LT_law (bodyAt c_law p_law4) false (0 :: p_law4)) (sh_law4.enc (e_law4 a))).run = ((T_law4 a).bind fun s => .ret (turnV sh_law4 e_law4 s)).run := by
  rintro ⟨x, m, e, v, h, y, i⟩
  kernel_rfl

def μ_law4 : A_law4 → Nat := fun ⟨x, m, e, v, h, y, i⟩ => (v.length - i).toNat
theorem step_law4 : ∀ a : A_law4, I_law4 a → (∃ a', (T_law4 a).run = some (.inl a') ∧ I_law4 a' ∧ μ_law4 a' < μ_law4 a ∧ (G_law4 a').run = (G_law4 a).run) ∨ (∃ y, (T_law4 a).run = some (.inr y) ∧ (G_law4 a).run = some y ∧ ((∃ id, y.1 = .exit id) ∨ y.1 = .ret)) := by
  rintro ⟨x, m, e, v, h, y, i⟩ ⟨h1, h2, h3, h4, h5, h6, hr⟩
  by_cases hi : i < v.length
  · have hd : v.drop i.toNat = v.getD i.toNat (false, 0, 0, ()) :: v.drop (i + 1).toNat := by
      rw [toNat_succ h2]; exact drop_cons (by omega) _
    have hmu : (v.length - (i + 1) : Int).toNat < (v.length - i : Int).toNat := by omega
    rw [hd] at hr
    simp only [T_law4]
    generalize hz : v.getD i.toNat (false, 0, 0, ()) = z at hr ⊢
    simp only [replay] at hr
    cases hz1 : z.1 with
    | false =>
      by_cases c : z.2.1 = y
      · have hp : play1 (y, h) z = some (y + 1, h ++ [(z.2.1, ())]) := by
          unfold play1; rw [hz1]
          show (bif decide (z.2.1 = y) then _ else _) = _
          rw [decide_eq_true c]; rfl
        rw [hp] at hr
        refine .inl ⟨(x, m, e, v, h ++ [(z.2.1, ())], y + 1, i + 1), ?_, ⟨h1, by omega, by omega, by simp; omega, by omega, by omega, hr⟩, hmu, rfl⟩
        rw [wrap64 (by omega) (by omega), wrap64 (by omega) (by omega)]
        exact (goTd hi).trans ((goTa ⟨h2, hi⟩).trans ((goT rfl).trans ((goTa ⟨h2, hi⟩).trans ((goF (by rw [bne_int]; exact decide_eq_false (by simp [c]))).trans ((goTa ⟨h2, hi⟩).trans (goTb ⟨by omega, by omega⟩))))))
      · have hp : play1 (y, h) z = none := by
          unfold play1; rw [hz1]
          show (bif decide (z.2.1 = y) then _ else _) = _
          rw [decide_eq_false c]; rfl
        rw [hp] at hr; cases hr
    | true =>
      have hq := lastF_le h z.2.1 0 (-1) (h.length - 1) (by omega) (by omega)
      have hdr : List.drop 0 h = h := rfl
      rw [hdr]
      generalize hl : lastF z.2.1 h 0 (-1) = q at hq ⊢
      by_cases c : q < 0
      · have hp : play1 (y, h) z = none := by
          unfold play1; rw [hz1]
          show (bif decide (lastF z.2.1 h 0 (-1) < 0) then _ else _) = _
          rw [hl, decide_eq_true c]; rfl
        rw [hp] at hr; cases hr
      · have hp : play1 (y, h) z = some (y, h.take q.toNat ++ h.drop (q.toNat + 1)) := by
          unfold play1; rw [hz1]
          show (bif decide (lastF z.2.1 h 0 (-1) < 0) then _ else _) = _
          rw [hl, decide_eq_false c]; rfl
        rw [hp] at hr
        refine .inl ⟨(x, m, e, v, h.take q.toNat ++ h.drop (q.toNat + 1), y, i + 1), ?_, ⟨h1, by omega, by omega, by simp; omega, h5, by omega, hr⟩, hmu, rfl⟩
        rw [wrap64 (n := q + 1) (by omega) (by omega), wrap64 (n := i + 1) (by omega) (by omega), toNat_succ (show 0 ≤ q by omega)]
        have e1 : h.take (0 + (q.toNat - 0) - 0) = h.take q.toNat := by congr 1; omega
        have e2 : List.take (q.toNat + 1 + (h.length - (q.toNat + 1)) - (q.toNat + 1)) (h.drop (q.toNat + 1)) = h.drop (q.toNat + 1) := List.take_of_length_le (by simp)
        rw [e1, e2]
        refine (goTd hi).trans ((goTa ⟨h2, hi⟩).trans ((goF rfl).trans ((goC ⟨h2, hi, by omega, by omega, by omega⟩).trans ((goFd c).trans ((goTa ⟨by omega, by omega⟩).trans ((goTa ⟨by omega, by omega⟩).trans ((goTa ⟨by omega, by omega⟩).trans ?_)))))))
        refine (goT (by simp only [ble_dec]; simp; omega)).trans ((goT (by simp only [ble_dec]; simp; omega)).trans (goTb ⟨by simp; omega, by simp; omega⟩))
  · have he : v.drop i.toNat = [] := drop_end (by omega)
    rw [he] at hr
    have hr' : (y, h) = (x + 1, ids m) := Option.some.inj hr
    have hh : h = ids m := congrArg Prod.snd hr'
    subst hh
    exact .inr ⟨_, goFd hi, rfl, .inl ⟨4, rfl⟩⟩
noncomputable def T_law6 : Int × Helds × Evs × Evs × Ints × Int × Int × Int × Int → Tree (A_law6 ⊕ (Ex × St)) := fun ⟨x, m, e, v, h, y, i, t, k⟩ => 
Tree.ite (decide (k < (↑(List.length h) : Int))) (Tree.ite (decide ((0 : Int) ≤ k) && decide (k < (↑(List.length h) : Int))) (Tree.ite (decide ((0 : Int) ≤ i) && decide (i < (↑(List.length v) : Int))) (Tree.ite ((List.getD h k.toNat ((0 : Int), ())).fst == (List.getD v i.toNat (false, (0 : Int), (0 : Int), ())).snd.fst) (Tree.ret (Sum.inl (x, m, e, v, h, y, i, k, IntKind.i64.wrap (k + (1 : Int))))) (Tree.ret (Sum.inl (x, m, e, v, h, y, i, t, IntKind.i64.wrap (k + (1 : Int)))))) Tree.fail) Tree.fail) (Tree.ret (Sum.inr (Ex.exit (6 : Nat), { env := [((5 : Nat), AV.p (Part.one (Cell.p (0 : Nat) (0 : Nat)))), ((10 : Nat), AV.p (Part.one (Cell.h (1 : Nat)))), ((11 : Nat), AV.p (Part.one (Cell.h (2 : Nat)))), ((12 : Nat), AV.p (Part.one (Cell.v (Value.int IntKind.i64 y)))), ((13 : Nat), AV.p (Part.one (Cell.v (Value.int IntKind.i64 i)))), ((14 : Nat), AV.p (Part.one (Cell.v (Value.int IntKind.i64 t))))], hp := [((0 : Nat), Ob.lit [Cell.v (Value.int IntKind.i64 x), Cell.h (3 : Nat), Cell.h (4 : Nat)]), ((1 : Nat), Ob.row evT v), ((2 : Nat), Ob.row intsT h), ((3 : Nat), Ob.mp (Ty.i IntKind.i64) heldT m), ((4 : Nat), Ob.row evT e)], nx := (5 : Nat) })))
theorem turn_law6 : ∀ a : A_law6, (turnT 0 orc_law6 (evalCode Try.prog (lk L_held) Try.f5.ntmps 0 30 LT_law (bodyAt c_law p_law6) false (0 :: p_law6)) (sh_law6.enc (e_law6 a))).run = ((T_law6 a).bind fun s => .ret (turnV sh_law6 e_law6 s)).run := by
  rintro ⟨x, m, e, v, h, y, i, t, k⟩
  kernel_rfl

def μ_law6 : A_law6 → Nat := fun ⟨x, m, e, v, h, y, i, t, k⟩ => (h.length - k).toNat
theorem step_law6 : ∀ a : A_law6, I_law6 a → (∃ a', (T_law6 a).run = some (.inl a') ∧ I_law6 a' ∧ μ_law6 a' < μ_law6 a ∧ (G_law6 a').run = (G_law6 a).run) ∨ (∃ y, (T_law6 a).run = some (.inr y) ∧ (G_law6 a).run = some y ∧ ((∃ id, y.1 = .exit id) ∨ y.1 = .ret)) := by
  rintro ⟨x, m, e, v, h, y, i, t, k⟩ ⟨h1, h2, h3, h4, h5⟩
  by_cases hk : k < h.length
  · have hd : h.drop k.toNat = h.getD k.toNat (0, ()) :: h.drop (k + 1).toNat := by
      rw [toNat_succ h3]; exact drop_cons (by omega) _
    refine .inl ⟨(x, m, e, v, h, y, i, (bif (h.getD k.toNat (0, ())).1 == (v.getD i.toNat (false, 0, 0, ())).2.1 then k else t), k + 1), ?_, ⟨h1, h2, by omega, by omega, h5⟩, ?_, ?_⟩
    · simp only [T_law6]
      rw [wrap64 (by omega) (by omega)]
      refine (goTd hk).trans ((goTa ⟨h3, hk⟩).trans ((goTa ⟨h1, h2⟩).trans ?_))
      cases ((h.getD k.toNat (0, ())).1 == (v.getD i.toNat (false, 0, 0, ())).2.1) <;> rfl
    · change (h.length - (k + 1) : Int).toNat < (h.length - k : Int).toNat
      omega
    · simp only [G_law6]
      rw [hd]; rfl
  · have he : h.drop k.toNat = [] := drop_end (by omega)
    refine .inr ⟨_, goFd hk, ?_, .inl ⟨6, rfl⟩⟩
    simp only [G_law6]
    rw [he]; rfl
noncomputable def T_law2 : Int × Helds × Evs × Stps × Int → Tree (A_law2 ⊕ (Ex × St)) := fun ⟨x, m, e, l, i⟩ => 
Tree.ite (decide (i < (↑(List.length l) : Int))) (Tree.ite (decide ((0 : Int) ≤ i) && decide (i < (↑(List.length l) : Int))) (Tree.ite (Int.tmod (List.getD l i.toNat ((0 : Int), (0 : Int), (0 : Int), (0 : Int), ())).fst (2 : Int) == (0 : Int)) (Tree.ite (decide ((0 : Int) ≤ i) && decide (i < (↑(List.length l) : Int))) (Tree.ite (decide ((0 : Int) ≤ i) && decide (i < (↑(List.length l) : Int))) (Tree.ite (decide ((256 : Int) ≤ (↑(List.length m) : Int))) (Tree.ret (Sum.inl (x, m, e, l, IntKind.i64.wrap (i + (1 : Int))))) (Tree.ite (decC (List.length e ≤ (1000000 : Nat) ∧ (0 : Int) ≤ x ∧ x ≤ (1000000 : Int))) (Tree.ret (Sum.inl (x + (1 : Int), setH (x + (1 : Int)) ((List.getD l i.toNat ((0 : Int), (0 : Int), (0 : Int), (0 : Int), ())).snd.snd.fst, (List.getD l i.toNat ((0 : Int), (0 : Int), (0 : Int), (0 : Int), ())).snd.snd.snd.fst, ()) m, e ++ [(false, x + (1 : Int), (List.getD l i.toNat ((0 : Int), (0 : Int), (0 : Int), (0 : Int), ())).snd.snd.fst, ())], l, IntKind.i64.wrap (i + (1 : Int))))) Tree.fail)) Tree.fail) Tree.fail) (Tree.ite (decide ((0 : Int) ≤ i) && decide (i < (↑(List.length l) : Int))) (Tree.ite (decide ((0 : Int) ≤ i) && decide (i < (↑(List.length l) : Int))) (Tree.ite (!(So.findH (List.getD l i.toNat ((0 : Int), (0 : Int), (0 : Int), (0 : Int), ())).snd.fst m).isSome) (Tree.ret (Sum.inl (x, m, e, l, IntKind.i64.wrap (i + (1 : Int))))) (Tree.ite (decC (List.length e ≤ (1000000 : Nat))) (Tree.ret (Sum.inl (x, delH (List.getD l i.toNat ((0 : Int), (0 : Int), (0 : Int), (0 : Int), ())).snd.fst m, e ++ [(true, (List.getD l i.toNat ((0 : Int), (0 : Int), (0 : Int), (0 : Int), ())).snd.fst, (List.getD l i.toNat ((0 : Int), (0 : Int), (0 : Int), (0 : Int), ())).snd.snd.fst, ())], l, IntKind.i64.wrap (i + (1 : Int))))) Tree.fail)) Tree.fail) Tree.fail)) Tree.fail) (Tree.ret (Sum.inr (Ex.exit (2 : Nat), { env := [((5 : Nat), AV.p (Part.one (Cell.p (0 : Nat) (0 : Nat))))], hp := [((0 : Nat), Ob.lit [Cell.v (Value.int IntKind.i64 x), Cell.h (1 : Nat), Cell.h (2 : Nat)]), ((1 : Nat), Ob.mp (Ty.i IntKind.i64) heldT m), ((2 : Nat), Ob.row evT e)], nx := (3 : Nat) })))
theorem turn_law2 : ∀ a : A_law2, (turnT 0 orc_law2 (evalCode Try.prog (lk L_held) Try.f5.ntmps 0 30 LT_law (bodyAt c_law p_law2) false (0 :: p_law2)) (sh_law2.enc (e_law2 a))).run = ((T_law2 a).bind fun s => .ret (turnV sh_law2 e_law2 s)).run := by
  rintro ⟨x, m, e, l, i⟩
  kernel_rfl

def μ_law2 : A_law2 → Nat := fun ⟨x, m, e, l, i⟩ => (l.length - i).toNat
theorem step_law2 : ∀ a : A_law2, I_law2 a → (∃ a', (T_law2 a).run = some (.inl a') ∧ I_law2 a' ∧ μ_law2 a' < μ_law2 a ∧ (G_law2 a').run = (G_law2 a).run) ∨ (∃ y, (T_law2 a).run = some (.inr y) ∧ (G_law2 a).run = some y ∧ ((∃ id, y.1 = .exit id) ∨ y.1 = .ret)) := by
  rintro ⟨x, m, e, l, i⟩ ⟨hL, h1, h2, h3, h4, h5⟩
  have hx := hL.nn
  change 0 ≤ x at hx
  by_cases h : i < l.length
  · have hd : l.drop i.toNat = l.getD i.toNat (0, 0, 0, 0, ()) :: l.drop (i + 1).toNat := by
      rw [toNat_succ h1]; exact drop_cons (by omega) _
    generalize hz : l.getD i.toNat (0, 0, 0, 0, ()) = z at hd
    have hL' := hL.step z
    have hmu : (l.length - (i + 1) : Int).toNat < (l.length - i : Int).toNat := by omega
    cases ht : (Int.tmod z.1 2 == 0) with
    | true =>
      by_cases c : (256 : Int) ≤ (m.length : Int)
      · have ha : stepL (x, m, e) z = (x, m, e) := by unfold stepL acqL; rw [ht, decide_eq_true c]; rfl
        refine .inl ⟨(x, m, e, l, i + 1), ?_, ⟨hL, by omega, by omega, h3, by omega, by omega⟩, hmu, ?_⟩
        · simp only [T_law2]
          rw [wrap64 (by omega) (by omega), hz]
          exact (goTd h).trans ((goTa ⟨h1, h⟩).trans ((goT ht).trans ((goTa ⟨h1, h⟩).trans ((goTa ⟨h1, h⟩).trans (goTd c)))))
        · simp only [G_law2]
          rw [hd, List.foldl_cons, ha]
      · have ha : stepL (x, m, e) z = (x + 1, setH (x + 1) (z.2.2.1, z.2.2.2.1, ()) m, e ++ [(false, x + 1, z.2.2.1, ())]) := by unfold stepL acqL; rw [ht, decide_eq_false c]; rfl
        rw [ha] at hL'
        refine .inl ⟨(x + 1, setH (x + 1) (z.2.2.1, z.2.2.2.1, ()) m, e ++ [(false, x + 1, z.2.2.1, ())], l, i + 1), ?_, ⟨hL', by omega, by omega, h3, by simp; omega, by omega⟩, hmu, ?_⟩
        · simp only [T_law2]
          rw [wrap64 (by omega) (by omega), hz]
          exact (goTd h).trans ((goTa ⟨h1, h⟩).trans ((goT ht).trans ((goTa ⟨h1, h⟩).trans ((goTa ⟨h1, h⟩).trans ((goFd c).trans ((goC ⟨by omega, by omega, by omega⟩).trans rfl))))))
        · simp only [G_law2]
          rw [hd, List.foldl_cons, ha]
    | false =>
      cases hs : (findH z.2.1 m).isSome with
      | false =>
        have ha : stepL (x, m, e) z = (x, m, e) := by
          unfold stepL relL; rw [ht]
          show (bif !(findH z.2.1 m).isSome then (x, m, e) else _) = _
          rw [hs]; rfl
        refine .inl ⟨(x, m, e, l, i + 1), ?_, ⟨hL, by omega, by omega, h3, by omega, by omega⟩, hmu, ?_⟩
        · simp only [T_law2]
          rw [wrap64 (by omega) (by omega), hz]
          exact (goTd h).trans ((goTa ⟨h1, h⟩).trans ((goF ht).trans ((goTa ⟨h1, h⟩).trans ((goTa ⟨h1, h⟩).trans (goT (by rw [hs]; rfl))))))
        · simp only [G_law2]
          rw [hd, List.foldl_cons, ha]
      | true =>
        have ha : stepL (x, m, e) z = (x, delH z.2.1 m, e ++ [(true, z.2.1, z.2.2.1, ())]) := by
          unfold stepL relL; rw [ht]
          show (bif !(findH z.2.1 m).isSome then (x, m, e) else _) = _
          rw [hs]; rfl
        rw [ha] at hL'
        refine .inl ⟨(x, delH z.2.1 m, e ++ [(true, z.2.1, z.2.2.1, ())], l, i + 1), ?_, ⟨hL', by omega, by omega, h3, by simp; omega, by omega⟩, hmu, ?_⟩
        · simp only [T_law2]
          rw [wrap64 (by omega) (by omega), hz]
          exact (goTd h).trans ((goTa ⟨h1, h⟩).trans ((goF ht).trans ((goTa ⟨h1, h⟩).trans ((goTa ⟨h1, h⟩).trans ((goF (by rw [hs]; rfl)).trans ((goC (by omega)).trans rfl))))))
        · simp only [G_law2]
          rw [hd, List.foldl_cons, ha]
  · have he : l.drop i.toNat = [] := drop_end (by omega)
    refine .inr ⟨_, goFd h, ?_, .inl ⟨2, rfl⟩⟩
    simp only [G_law2]
    rw [he]; rfl
noncomputable def T_law1 : Int × Helds × Evs × Stps × Int × Int → Tree (A_law1 ⊕ (Ex × St)) := fun ⟨x, m, e, l, n, i⟩ => 
Tree.ite (decide (i < n)) (Tree.ite (decide ((256 : Int) ≤ (↑(List.length m) : Int))) (Tree.ite (!false == decide (i < (256 : Int))) (Tree.ret (Sum.inr (Ex.ret, { env := [((0 : Nat), AV.p (Part.one (Cell.d stpT l))), ((5 : Nat), AV.p (Part.one (Cell.p (0 : Nat) (0 : Nat))))], hp := [((0 : Nat), Ob.lit [Cell.v (Value.int IntKind.i64 x), Cell.h (1 : Nat), Cell.h (2 : Nat)]), ((1 : Nat), Ob.mp (Ty.i IntKind.i64) heldT m), ((2 : Nat), Ob.row evT e)], nx := (3 : Nat) }))) (Tree.ret (Sum.inl (x, m, e, l, n, IntKind.i64.wrap (i + (1 : Int)))))) (Tree.ite (decC (List.length e ≤ (1000000 : Nat) ∧ (0 : Int) ≤ x ∧ x ≤ (1000000 : Int))) (Tree.ite (!true == decide (i < (256 : Int))) (Tree.ret (Sum.inr (Ex.ret, { env := [((0 : Nat), AV.p (Part.one (Cell.d stpT l))), ((5 : Nat), AV.p (Part.one (Cell.p (0 : Nat) (0 : Nat))))], hp := [((0 : Nat), Ob.lit [Cell.v (Value.int IntKind.i64 (x + (1 : Int))), Cell.h (1 : Nat), Cell.h (2 : Nat)]), ((1 : Nat), Ob.mp (Ty.i IntKind.i64) heldT (setH (x + (1 : Int)) ((9 : Int), i, ()) m)), ((2 : Nat), Ob.row evT (e ++ [(false, x + (1 : Int), (9 : Int), ())]))], nx := (3 : Nat) }))) (Tree.ret (Sum.inl (x + (1 : Int), setH (x + (1 : Int)) ((9 : Int), i, ()) m, e ++ [(false, x + (1 : Int), (9 : Int), ())], l, n, IntKind.i64.wrap (i + (1 : Int)))))) Tree.fail)) (Tree.ret (Sum.inr (Ex.exit (0 : Nat), { env := [((0 : Nat), AV.p (Part.one (Cell.d stpT l))), ((5 : Nat), AV.p (Part.one (Cell.p (0 : Nat) (0 : Nat))))], hp := [((0 : Nat), Ob.lit [Cell.v (Value.int IntKind.i64 x), Cell.h (1 : Nat), Cell.h (2 : Nat)]), ((1 : Nat), Ob.mp (Ty.i IntKind.i64) heldT m), ((2 : Nat), Ob.row evT e)], nx := (3 : Nat) })))
theorem turn_law1 : ∀ a : A_law1, (turnT 0 orc_law1 (evalCode Try.prog (lk L_held) Try.f5.ntmps 0 30 LT_law (bodyAt c_law p_law1) false (0 :: p_law1)) (sh_law1.enc (e_law1 a))).run = ((T_law1 a).bind fun s => .ret (turnV sh_law1 e_law1 s)).run := by
  rintro ⟨x, m, e, l, n, i⟩
  kernel_rfl

def μ_law1 : A_law1 → Nat := fun ⟨x, m, e, l, n, i⟩ => (n - i).toNat
theorem step_law1 : ∀ a : A_law1, I_law1 a → (∃ a', (T_law1 a).run = some (.inl a') ∧ I_law1 a' ∧ μ_law1 a' < μ_law1 a ∧ (G_law1 a').run = (G_law1 a).run) ∨ (∃ y, (T_law1 a).run = some (.inr y) ∧ (G_law1 a).run = some y ∧ ((∃ id, y.1 = .exit id) ∨ y.1 = .ret)) := by
  rintro ⟨x, m, e, l, n, i⟩ ⟨hL, h1, h2, h3, h4, h5, h6⟩
  have hx := hL.nn
  change 0 ≤ x at hx
  by_cases h : i < n
  · have hn : (n - i).toNat = (n - (i + 1)).toNat + 1 := by omega
    by_cases c : (256 : Int) ≤ (m.length : Int)
    · refine .inl ⟨(x, m, e, l, n, i + 1), ?_, ⟨hL, by omega, by omega, h3, by omega, by omega, by omega⟩, ?_, ?_⟩
      · simp only [T_law1]
        rw [wrap64 (by omega) (by omega)]
        exact (goTd h).trans ((goTd c).trans ((goF (by rw [decide_eq_false (show ¬ i < 256 by omega)]; rfl)).trans rfl))
      · change (n - (i + 1)).toNat < (n - i).toNat
        omega
      · simp only [G_law1]
        have : acqL 9 i (x, m, e) = (x, m, e) := by unfold acqL; rw [decide_eq_true c]; rfl
        rw [hn, acqN, this]
    · have ha : acqL 9 i (x, m, e) = (x + 1, setH (x + 1) (9, i, ()) m, e ++ [(false, x + 1, 9, ())]) := by unfold acqL; rw [decide_eq_false c]; rfl
      have hL' := hL.acq 9 i
      rw [ha] at hL'
      have hs := setH_new (m := m) (i := x + 1) (v := (9, i, ())) fun z hz => by have := hL.le z hz; change z.1 ≤ x at this; omega
      refine .inl ⟨(x + 1, setH (x + 1) (9, i, ()) m, e ++ [(false, x + 1, 9, ())], l, n, i + 1), ?_, ⟨hL', by omega, by omega, h3, by simp; omega, by omega, by rw [hs]; simp; omega⟩, ?_, ?_⟩
      · simp only [T_law1]
        rw [wrap64 (by omega) (by omega)]
        exact (goTd h).trans ((goFd c).trans ((goC ⟨by omega, by omega, by omega⟩).trans ((goF (by rw [decide_eq_true (show i < 256 by omega)]; rfl)).trans rfl)))
      · change (n - (i + 1)).toNat < (n - i).toNat
        omega
      · simp only [G_law1]
        rw [hn, acqN, ha]
  · have he : i = n := by omega
    subst he
    refine .inr ⟨_, goFd h, ?_, .inl ⟨0, rfl⟩⟩
    simp only [G_law1]
    rw [show (i - i).toNat = 0 by omega]; rfl
theorem lok_law : LOk Try.prog (lk L_held) Try.f5.ntmps 0 30 LT_law c_law := lok_view (lok_view (lok_view (lok_view (noL_ok2 _ _ _ _ _ _ _) (by kernel_rfl) e_law4 (by rintro ⟨⟨⟨⟩, ⟨⟩, ⟨⟩, y, i, ⟨⟩⟩, ⟨⟨x, ⟨⟩, ⟨⟩, ⟨⟩⟩, v, h, m, e, ⟨⟩⟩⟩; exact ⟨(x, m, e, v, h, y, i), rfl⟩) T_law4 turn_law4 I_law4 G_law4 (by rintro ⟨x, m, e, v, h, y, i⟩; rfl) μ_law4 step_law4) (by kernel_rfl) e_law6 (by rintro ⟨⟨⟨⟩, ⟨⟩, ⟨⟩, y, i, t, k, ⟨⟩⟩, ⟨⟨x, ⟨⟩, ⟨⟩, ⟨⟩⟩, v, h, m, e, ⟨⟩⟩⟩; exact ⟨(x, m, e, v, h, y, i, t, k), rfl⟩) T_law6 turn_law6 I_law6 G_law6 (by rintro ⟨x, m, e, v, h, y, i, t, k⟩; rfl) μ_law6 step_law6) (by kernel_rfl) e_law2 (by rintro ⟨⟨l, ⟨⟩, i, ⟨⟩⟩, ⟨⟨x, ⟨⟩, ⟨⟩, ⟨⟩⟩, m, e, ⟨⟩⟩⟩; exact ⟨(x, m, e, l, i), rfl⟩) T_law2 turn_law2 I_law2 G_law2 (by rintro ⟨x, m, e, l, i⟩; rfl) μ_law2 step_law2) (by kernel_rfl) e_law1 (by rintro ⟨⟨l, n, ⟨⟩, i, ⟨⟩⟩, ⟨⟨x, ⟨⟩, ⟨⟩, ⟨⟩⟩, m, e, ⟨⟩⟩⟩; exact ⟨(x, m, e, l, n, i), rfl⟩) T_law1 turn_law1 I_law1 G_law1 (by rintro ⟨x, m, e, l, n, i⟩; rfl) μ_law1 step_law1
noncomputable def E_law : Stps × Int → Tree (AV × List Ob) := fun ⟨l, n⟩ => 
Tree.ite (!decide ((60 : Int) < (↑(List.length l) : Int))) (Tree.ite (!decide (n < (0 : Int))) (Tree.ite (decide ((300 : Int) < n)) (Tree.ret (AV.p (Part.one (Cell.v (Value.bool true))), [])) (Tree.ite (decC (LedI ((0 : Int), [], []) ∧ (0 : Int) ≤ (0 : Int) ∧ (0 : Int) ≤ n ∧ n ≤ (300 : Int) ∧ (0 : Int) ≤ (0 : Int) ∧ (0 : Int) ≤ (0 : Int) ∧ (0 : Int) = (0 : Int))) (Tree.ite (decC (LedI ((acqN (n - (0 : Int)).toNat (0 : Int) ((0 : Int), [], [])).fst, (acqN (n - (0 : Int)).toNat (0 : Int) ((0 : Int), [], [])).snd.fst, (acqN (n - (0 : Int)).toNat (0 : Int) ((0 : Int), [], [])).snd.snd) ∧ (0 : Int) ≤ (0 : Int) ∧ (0 : Int) ≤ (↑(List.length l) : Int) ∧ List.length l ≤ (60 : Nat) ∧ (↑(List.length (acqN (n - (0 : Int)).toNat (0 : Int) ((0 : Int), [], [])).snd.snd) : Int) ≤ (300 : Int) ∧ (acqN (n - (0 : Int)).toNat (0 : Int) ((0 : Int), [], [])).fst ≤ (300 : Int))) (Tree.ite (decC (List.length (List.foldl stepL ((acqN (n - (0 : Int)).toNat (0 : Int) ((0 : Int), [], [])).fst, (acqN (n - (0 : Int)).toNat (0 : Int) ((0 : Int), [], [])).snd.fst, (acqN (n - (0 : Int)).toNat (0 : Int) ((0 : Int), [], [])).snd.snd) (List.drop (0 : Nat) l)).snd.snd ≤ (1000000 : Nat))) (Tree.ite (decC (List.length (List.foldl stepL ((acqN (n - (0 : Int)).toNat (0 : Int) ((0 : Int), [], [])).fst, (acqN (n - (0 : Int)).toNat (0 : Int) ((0 : Int), [], [])).snd.fst, (acqN (n - (0 : Int)).toNat (0 : Int) ((0 : Int), [], [])).snd.snd) (List.drop (0 : Nat) l)).snd.snd ≤ (1000 : Nat) ∧ (0 : Int) ≤ (0 : Int) ∧ (0 : Int) ≤ (↑(List.length (List.foldl stepL ((acqN (n - (0 : Int)).toNat (0 : Int) ((0 : Int), [], [])).fst, (acqN (n - (0 : Int)).toNat (0 : Int) ((0 : Int), [], [])).snd.fst, (acqN (n - (0 : Int)).toNat (0 : Int) ((0 : Int), [], [])).snd.snd) (List.drop (0 : Nat) l)).snd.snd) : Int) ∧ (0 : Int) ≤ (0 : Int) ∧ (0 : Int) ≤ (1 : Int) ∧ (1 : Int) ≤ (1 : Int) ∧ replay ((1 : Int), []) (List.drop (0 : Nat) (List.foldl stepL ((acqN (n - (0 : Int)).toNat (0 : Int) ((0 : Int), [], [])).fst, (acqN (n - (0 : Int)).toNat (0 : Int) ((0 : Int), [], [])).snd.fst, (acqN (n - (0 : Int)).toNat (0 : Int) ((0 : Int), [], [])).snd.snd) (List.drop (0 : Nat) l)).snd.snd) = some ((List.foldl stepL ((acqN (n - (0 : Int)).toNat (0 : Int) ((0 : Int), [], [])).fst, (acqN (n - (0 : Int)).toNat (0 : Int) ((0 : Int), [], [])).snd.fst, (acqN (n - (0 : Int)).toNat (0 : Int) ((0 : Int), [], [])).snd.snd) (List.drop (0 : Nat) l)).fst + (1 : Int), ids (List.foldl stepL ((acqN (n - (0 : Int)).toNat (0 : Int) ((0 : Int), [], [])).fst, (acqN (n - (0 : Int)).toNat (0 : Int) ((0 : Int), [], [])).snd.fst, (acqN (n - (0 : Int)).toNat (0 : Int) ((0 : Int), [], [])).snd.snd) (List.drop (0 : Nat) l)).snd.fst))) (Tree.ite (decC (Rise (0 : Int) (List.foldl stepL ((acqN (n - (0 : Int)).toNat (0 : Int) ((0 : Int), [], [])).fst, (acqN (n - (0 : Int)).toNat (0 : Int) ((0 : Int), [], [])).snd.fst, (acqN (n - (0 : Int)).toNat (0 : Int) ((0 : Int), [], [])).snd.snd) (List.drop (0 : Nat) l)).snd.fst ∧ List.length (List.foldl stepL ((acqN (n - (0 : Int)).toNat (0 : Int) ((0 : Int), [], [])).fst, (acqN (n - (0 : Int)).toNat (0 : Int) ((0 : Int), [], [])).snd.fst, (acqN (n - (0 : Int)).toNat (0 : Int) ((0 : Int), [], [])).snd.snd) (List.drop (0 : Nat) l)).snd.fst ≤ (1000000 : Nat))) (Tree.ite (decC (List.length (ids (List.foldl stepL ((acqN (n - (0 : Int)).toNat (0 : Int) ((0 : Int), [], [])).fst, (acqN (n - (0 : Int)).toNat (0 : Int) ((0 : Int), [], [])).snd.fst, (acqN (n - (0 : Int)).toNat (0 : Int) ((0 : Int), [], [])).snd.snd) (List.drop (0 : Nat) l)).snd.fst) ≤ (1000000 : Nat) ∧ List.length (ids (List.foldl stepL ((acqN (n - (0 : Int)).toNat (0 : Int) ((0 : Int), [], [])).fst, (acqN (n - (0 : Int)).toNat (0 : Int) ((0 : Int), [], [])).snd.fst, (acqN (n - (0 : Int)).toNat (0 : Int) ((0 : Int), [], [])).snd.snd) (List.drop (0 : Nat) l)).snd.fst) ≤ (1000000 : Nat))) (Tree.ite (decide (ids (List.foldl stepL ((acqN (n - (0 : Int)).toNat (0 : Int) ((0 : Int), [], [])).fst, (acqN (n - (0 : Int)).toNat (0 : Int) ((0 : Int), [], [])).snd.fst, (acqN (n - (0 : Int)).toNat (0 : Int) ((0 : Int), [], [])).snd.snd) (List.drop (0 : Nat) l)).snd.fst = ids (List.foldl stepL ((acqN (n - (0 : Int)).toNat (0 : Int) ((0 : Int), [], [])).fst, (acqN (n - (0 : Int)).toNat (0 : Int) ((0 : Int), [], [])).snd.fst, (acqN (n - (0 : Int)).toNat (0 : Int) ((0 : Int), [], [])).snd.snd) (List.drop (0 : Nat) l)).snd.fst)) (Tree.ret (AV.p (Part.one (Cell.v (Value.bool (decide ((↑(List.length (ids (List.foldl stepL ((acqN (n - (0 : Int)).toNat (0 : Int) ((0 : Int), [], [])).fst, (acqN (n - (0 : Int)).toNat (0 : Int) ((0 : Int), [], [])).snd.fst, (acqN (n - (0 : Int)).toNat (0 : Int) ((0 : Int), [], [])).snd.snd) (List.drop (0 : Nat) l)).snd.fst)) : Int) ≤ (256 : Int)))))), [])) (Tree.ret (AV.p (Part.one (Cell.v (Value.bool false))), []))) Tree.fail) Tree.fail) Tree.fail) Tree.fail) Tree.fail) Tree.fail)) (Tree.ret (AV.p (Part.one (Cell.v (Value.bool true))), []))) (Tree.ret (AV.p (Part.one (Cell.v (Value.bool true))), []))
theorem ev_law (l : Stps) (n : Int) : (evalFnL Try.prog (lk L_held) 30 LT_law Try.f5 c_law [] [.p (.one (.d stpT l)), .p (.one (.v (.int .i64 n)))] []).run = (E_law (l, n)).run := by kernel_rfl

theorem true_law (l : Stps) (n : Int) (hok : okS [.one (.sl stpT), .one (.i .i64)] (l, n, ())) : (E_law (l, n)).run = some (AV.b true, []) := by
  have hlen : List.length l ≤ 60 ∨ (60 : Int) < (l.length : Int) := by omega
  rcases hlen with hl | hl
  case inr => simp only [E_law]; rw [goFn hl]; rfl
  by_cases h0 : n < 0
  · simp only [E_law]
    rw [goTn (by omega), goFn h0]; rfl
  by_cases h1 : (300 : Int) < n
  · simp only [E_law]
    rw [goTn (by omega), goTn h0, goTd h1]; rfl
  have hn : ((n - 0).toNat : Int) = n := by omega
  obtain ⟨a1, a2, a3⟩ := acqN_all (n - 0).toNat 0 (0, [], []) LedI.new
  simp only [E_law]
  rw [goTn (by omega), goTn h0, goFd h1, goC ⟨LedI.new, by omega, by omega, by omega, by omega, by omega, trivial⟩]
  generalize acqN (n - 0).toNat 0 (0, [], []) = s at *
  change s.1 ≤ 0 + _ at a2
  change s.2.2.length ≤ 0 + _ at a3
  rw [goC ⟨a1, by omega, by omega, hl, by omega, by omega⟩]
  obtain ⟨b1, b2, b3⟩ := stepN_all l s a1
  have hs : (s.1, s.2.1, s.2.2) = s := rfl
  rw [hs, show List.drop 0 l = l from rfl]
  generalize l.foldl stepL s = t at *
  have hf := b1.few
  have hil : (ids t.2.1).length ≤ 256 := by simpa [ids] using hf
  rw [goC (by omega), goC ⟨by omega, by omega, by omega, by omega, by omega, by omega, b1.play⟩, goC ⟨b1.rise, by omega⟩, goC ⟨by omega, by omega⟩, goTd trivial, show decide (((ids t.2.1).length : Int) ≤ 256) = true from decide_eq_true (by omega)]
  rfl
theorem lifted_law (os : Os) (started : os.Started) : ∀ {H : Type} (enc : TypeId × Value → H), ReturnsInHanded {} Try.checked os 5 .any (Rows.sockLedgerSpec.pre6 enc Try.prog Try.f5 [] false) (Rows.sockLedgerSpec.post enc Try.prog Try.f5 false true false false) := by
  intro H enc
  refine law_lifted (by kernel_rfl) (by kernel_rfl) started (by kernel_rfl) Try.func5 rfl ?_ rfl (by kernel_rfl) ?_
    (ChangeSpec.witness6 (enc := enc) (C := Try.checked) false ⟨#[], #[.slice none 0 0, .int .i64 0], []⟩ 8 (by kernel_rfl) (by kernel_rfl) (by kernel_rfl) (by kernel_rfl)) ?_
  · exact of_decide_eq_true (by kernel_rfl)
  · intro ds hds
    match ds, hds with
    | [d0, d1], _ => rfl
  · intro W base args ds before hval htrod
    refine law_data (K := Kn) tok_held Try.checked.mixed Try.func5 (by rfl) 30 4 (rc := []) (sh := [.one (.sl stpT), .one (.i .i64)]) (by kernel_rfl) ?_ W trivial base args ds before hval htrod
    rintro ⟨l, n, ⟨⟩⟩ hok
    exact ⟨LT_law, lok_law, (ev_law l n).trans (true_law l n hok)⟩
theorem over_law : Rows.sockLedgerRow.holds Try.pinned (OpenSpec.ofChange Rows.sockLedgerSpec) :=
  OpenClaim.holds_of_wide 5 Try.f5 rfl rfl rfl rfl rfl rfl rfl ⟨rfl, rfl, rfl, rfl, rfl⟩ rfl rfl rfl rfl rfl (by kernel_rfl) Try.func5 (by kernel_rfl)
    (of_decide_eq_true (by kernel_rfl)) (by unfold Func.isWrapper; first | (rw [if_pos (by decide +kernel)]; kernel_rfl) | (rw [if_neg (by decide +kernel)]; exact ⟨rfl, rfl⟩))
    (fun os started H enc _ => lifted_law os started enc)
theorem holds_law : Rows.SockLedgerSaid := over_law
end Go.Proofs.Ytebimchjglckoaa.led
