/-
  The contracts of package sock's ledgers (written by our own gen_sol.py).
-/
import Derived.Test.YtebimchjglckoaaSoK
import Derived.Test.YtebimchjglckoaaSoU
namespace Go.Proofs.Ytebimchjglckoaa.led
open Go Go.Sy Go.Sz Go.So Go.Proofs.Ytebimchjglckoaa
set_option linter.unusedVariables false
set_option linter.unusedSimpArgs false
set_option linter.constructorNameAsVariable false
set_option maxRecDepth 100000

def ea_acq2 : Int × Helds × Evs × Int × Int → denAs [.c (.p 0 0), .c (.i .i64), .c (.i .i64)] := fun ⟨x, m, e, n, w⟩ => ((), n, w, ())
def eo_acq2 : Int × Helds × Evs × Int × Int → denObs [.lit [.i .i64, .h 1, .h 2], .mp (.i .i64) heldT, .row evT] := fun ⟨x, m, e, n, w⟩ => ((x, (), (), ()), m, e, ())
noncomputable def E_acq2 : Int × Helds × Evs × Int × Int → Tree (AV × List Ob) := fun ⟨x, m, e, n, w⟩ => 
Tree.ite (decide ((256 : Int) ≤ (↑(List.length m) : Int))) (Tree.ret (AV.t [Part.one (Cell.v (Value.int IntKind.i64 (0 : Int))), Part.one (Cell.v (Value.bool false))], [Ob.lit [Cell.v (Value.int IntKind.i64 x), Cell.h (1 : Nat), Cell.h (2 : Nat)], Ob.mp (Ty.i IntKind.i64) heldT m, Ob.row evT e])) (Tree.ite (bytesOk (List.length e + (1 : Nat)) (24 : Nat) && (List.length e + (1 : Nat)).ble (140737488355328 : Nat)) (Tree.ret (AV.t [Part.one (Cell.v (Value.int IntKind.i64 (IntKind.i64.wrap (x + (1 : Int))))), Part.one (Cell.v (Value.bool true))], [Ob.lit [Cell.v (Value.int IntKind.i64 (IntKind.i64.wrap (x + (1 : Int)))), Cell.h (1 : Nat), Cell.h (3 : Nat)], Ob.mp (Ty.i IntKind.i64) heldT (setH (IntKind.i64.wrap (x + (1 : Int))) (n, w, ()) m), Ob.dead, Ob.row evT (e ++ [(false, IntKind.i64.wrap (x + (1 : Int)), n, ())])])) Tree.fail)
noncomputable def F_acq2 : denAs [.c (.p 0 0), .c (.i .i64), .c (.i .i64)] → denObs [.lit [.i .i64, .h 1, .h 2], .mp (.i .i64) heldT, .row evT] → Tree (AV × List Ob) := fun x y => match x, y with
  | ((), n, w, ()), ((x, (), (), ()), m, e, ()) => .ite (decide ((256 : Int) ≤ (m.length : Int))) (.ret (.t [.one (.v (.int .i64 (0))), .one (.v (.bool false))], [Ob.lit [.v (.int .i64 (x)), .h 1, .h 2], Ob.mp (.i .i64) heldT m, Ob.row evT e])) (ckP (e.length ≤ 1000000 ∧ 0 ≤ x ∧ x ≤ 1000000) (.ret (.t [.one (.v (.int .i64 (x + 1))), .one (.v (.bool true))], [Ob.lit [.v (.int .i64 (x + 1)), .h 1, .h 3], Ob.mp (.i .i64) heldT (setH (x + 1) (n, w, ()) m), Ob.dead, Ob.row evT (e ++ [(false, x + 1, n, ())])])))
theorem ev_acq2 : ∀ a, (evalFnL Try.prog (lk L_known) 20 noL Try.f15 (Try.f15.body.getD .skip) [] (encAs [.c (.p 0 0), .c (.i .i64), .c (.i .i64)] (ea_acq2 a)) (encOs [.lit [.i .i64, .h 1, .h 2], .mp (.i .i64) heldT, .row evT] (eo_acq2 a))).run = (E_acq2 a).run := by
  rintro ⟨x, m, e, n, w⟩
  kernel_rfl
theorem fe_acq2 : ∀ a y, (F_acq2 (ea_acq2 a) (eo_acq2 a)).run = some y → (E_acq2 a).run = some y := by
  rintro ⟨x, m, e, n, w⟩ y h
  simp only [E_acq2]
  by_cases h0 : (256 : Int) ≤ (m.length : Int)
  · exact (goTd h0).trans ((goTd h0).symm.trans h)
  · obtain ⟨⟨h1, h2, h3⟩, h4⟩ := ckP_run ((goFd h0).symm.trans h)
    change e.length ≤ 1000000 at h1
    change 0 ≤ x at h2
    change x ≤ 1000000 at h3
    rw [wrap64 (by omega) (by omega)]
    exact (goFd h0).trans ((goTb ⟨by omega, by omega⟩).trans h4)
theorem ok_acq2 : SummOk Kn Try.prog 15 (sumT [.own 3, .any, .any] false [.c (.p 0 0), .c (.i .i64), .c (.i .i64)] [.lit [.i .i64, .h 1, .h 2], .mp (.i .i64) heldT, .row evT] F_acq2) := sumT_view tok_known Try.checked.mixed Try.func15 (by kernel_rfl) (by rfl) 20 [] ea_acq2 eo_acq2
  (by rintro ⟨⟨⟩, n, w, ⟨⟩⟩ ⟨⟨x, ⟨⟩, ⟨⟩, ⟨⟩⟩, m, e, ⟨⟩⟩; exact ⟨(x, m, e, n, w), rfl, rfl⟩) noL 3 (by rintro ⟨⟨x, ⟨⟩, ⟨⟩, ⟨⟩⟩, m, e, ⟨⟩⟩; rfl) (noL_ok _ _ _ _ _ _) E_acq2 ev_acq2 fe_acq2
noncomputable def L_acq2 : List (Nat × Summ) := (15, (sumT [.own 3, .any, .any] false [.c (.p 0 0), .c (.i .i64), .c (.i .i64)] [.lit [.i .i64, .h 1, .h 2], .mp (.i .i64) heldT, .row evT] F_acq2)) :: L_known
theorem tok_acq2 : TOk Kn Try.prog (lk L_acq2) := lk_cons ok_acq2 tok_known

def ea_rel2 : Int × Helds × Evs × Int × Int → denAs [.c (.p 0 0), .c (.i .i64), .c (.i .i64)] := fun ⟨x, m, e, i, n⟩ => ((), i, n, ())
def eo_rel2 : Int × Helds × Evs × Int × Int → denObs [.lit [.i .i64, .h 1, .h 2], .mp (.i .i64) heldT, .row evT] := fun ⟨x, m, e, i, n⟩ => ((x, (), (), ()), m, e, ())
noncomputable def E_rel2 : Int × Helds × Evs × Int × Int → Tree (AV × List Ob) := fun ⟨x, m, e, i, n⟩ => 
Tree.ite (!(findH i m).isSome) (Tree.ret (AV.t [Part.one (Cell.v (Value.int IntKind.i64 (0 : Int))), Part.one (Cell.v (Value.int IntKind.i64 (110 : Int)))], [Ob.lit [Cell.v (Value.int IntKind.i64 x), Cell.h (1 : Nat), Cell.h (2 : Nat)], Ob.mp (Ty.i IntKind.i64) heldT m, Ob.row evT e])) (Tree.ite (bytesOk (List.length e + (1 : Nat)) (24 : Nat) && (List.length e + (1 : Nat)).ble (140737488355328 : Nat)) (Tree.ret (AV.t [Part.one (Cell.v (Value.int IntKind.i64 ((findH i m).getD ((0 : Int), (0 : Int), ())).snd.fst)), Part.one (Cell.v (Value.int IntKind.i64 (0 : Int)))], [Ob.lit [Cell.v (Value.int IntKind.i64 x), Cell.h (1 : Nat), Cell.h (3 : Nat)], Ob.mp (Ty.i IntKind.i64) heldT (delH i m), Ob.dead, Ob.row evT (e ++ [(true, i, n, ())])])) Tree.fail)
noncomputable def F_rel2 : denAs [.c (.p 0 0), .c (.i .i64), .c (.i .i64)] → denObs [.lit [.i .i64, .h 1, .h 2], .mp (.i .i64) heldT, .row evT] → Tree (AV × List Ob) := fun x y => match x, y with
  | ((), i, n, ()), ((x, (), (), ()), m, e, ()) => .ite (!(findH i m).isSome) (.ret (.t [.one (.v (.int .i64 (0))), .one (.v (.int .i64 (110)))], [Ob.lit [.v (.int .i64 (x)), .h 1, .h 2], Ob.mp (.i .i64) heldT m, Ob.row evT e])) (ckP (e.length ≤ 1000000) (.ret (.t [.one (.v (.int .i64 (((findH i m).getD (0, 0, ())).2.1))), .one (.v (.int .i64 (0)))], [Ob.lit [.v (.int .i64 (x)), .h 1, .h 3], Ob.mp (.i .i64) heldT (delH i m), Ob.dead, Ob.row evT (e ++ [(true, i, n, ())])])))
theorem ev_rel2 : ∀ a, (evalFnL Try.prog (lk L_acq2) 20 noL Try.f16 (Try.f16.body.getD .skip) [] (encAs [.c (.p 0 0), .c (.i .i64), .c (.i .i64)] (ea_rel2 a)) (encOs [.lit [.i .i64, .h 1, .h 2], .mp (.i .i64) heldT, .row evT] (eo_rel2 a))).run = (E_rel2 a).run := by
  rintro ⟨x, m, e, i, n⟩
  kernel_rfl
theorem fe_rel2 : ∀ a y, (F_rel2 (ea_rel2 a) (eo_rel2 a)).run = some y → (E_rel2 a).run = some y := by
  rintro ⟨x, m, e, i, n⟩ y h
  simp only [E_rel2]
  cases hb : (!(findH i m).isSome) with
  | true => exact (goT rfl).trans ((goT hb).symm.trans h)
  | false =>
    obtain ⟨h1, h4⟩ := ckP_run ((goF hb).symm.trans h)
    change e.length ≤ 1000000 at h1
    exact (goF rfl).trans ((goTb ⟨by omega, by omega⟩).trans h4)
theorem ok_rel2 : SummOk Kn Try.prog 16 (sumT [.own 3, .any, .any] false [.c (.p 0 0), .c (.i .i64), .c (.i .i64)] [.lit [.i .i64, .h 1, .h 2], .mp (.i .i64) heldT, .row evT] F_rel2) := sumT_view tok_acq2 Try.checked.mixed Try.func16 (by kernel_rfl) (by rfl) 20 [] ea_rel2 eo_rel2
  (by rintro ⟨⟨⟩, i, n, ⟨⟩⟩ ⟨⟨x, ⟨⟩, ⟨⟩, ⟨⟩⟩, m, e, ⟨⟩⟩; exact ⟨(x, m, e, i, n), rfl, rfl⟩) noL 3 (by rintro ⟨⟨x, ⟨⟩, ⟨⟩, ⟨⟩⟩, m, e, ⟨⟩⟩; rfl) (noL_ok _ _ _ _ _ _) E_rel2 ev_rel2 fe_rel2
noncomputable def L_rel2 : List (Nat × Summ) := (16, (sumT [.own 3, .any, .any] false [.c (.p 0 0), .c (.i .i64), .c (.i .i64)] [.lit [.i .i64, .h 1, .h 2], .mp (.i .i64) heldT, .row evT] F_rel2)) :: L_acq2
theorem tok_rel2 : TOk Kn Try.prog (lk L_rel2) := lk_cons ok_rel2 tok_acq2

def ea_what2 : Int × Helds × Evs × Int → denAs [.c (.p 0 0), .c (.i .i64)] := fun ⟨x, m, e, i⟩ => ((), i, ())
def eo_what2 : Int × Helds × Evs × Int → denObs [.lit [.i .i64, .h 1, .h 2], .mp (.i .i64) heldT, .row evT] := fun ⟨x, m, e, i⟩ => ((x, (), (), ()), m, e, ())
noncomputable def E_what2 : Int × Helds × Evs × Int → Tree (AV × List Ob) := fun ⟨x, m, e, i⟩ => 
Tree.ret (AV.t [Part.one (Cell.v (Value.int IntKind.i64 ((findH i m).getD ((0 : Int), (0 : Int), ())).fst)), Part.one (Cell.v (Value.int IntKind.i64 ((findH i m).getD ((0 : Int), (0 : Int), ())).snd.fst)), Part.one (Cell.v (Value.bool (findH i m).isSome))], [Ob.lit [Cell.v (Value.int IntKind.i64 x), Cell.h (1 : Nat), Cell.h (2 : Nat)], Ob.mp (Ty.i IntKind.i64) heldT m, Ob.row evT e])
noncomputable def F_what2 : denAs [.c (.p 0 0), .c (.i .i64)] → denObs [.lit [.i .i64, .h 1, .h 2], .mp (.i .i64) heldT, .row evT] → Tree (AV × List Ob) := fun x y => match x, y with
  | ((), i, ()), ((x, (), (), ()), m, e, ()) => .ret (.t [.one (.v (.int .i64 (((findH i m).getD (0, 0, ())).1))), .one (.v (.int .i64 (((findH i m).getD (0, 0, ())).2.1))), .one (.v (.bool (findH i m).isSome))], [Ob.lit [.v (.int .i64 (x)), .h 1, .h 2], Ob.mp (.i .i64) heldT m, Ob.row evT e])
theorem ev_what2 : ∀ a, (evalFnL Try.prog (lk L_rel2) 20 noL Try.f26 (Try.f26.body.getD .skip) [] (encAs [.c (.p 0 0), .c (.i .i64)] (ea_what2 a)) (encOs [.lit [.i .i64, .h 1, .h 2], .mp (.i .i64) heldT, .row evT] (eo_what2 a))).run = (E_what2 a).run := by
  rintro ⟨x, m, e, i⟩
  kernel_rfl
theorem fe_what2 : ∀ a y, (F_what2 (ea_what2 a) (eo_what2 a)).run = some y → (E_what2 a).run = some y := by
  rintro ⟨x, m, e, i⟩ y h
  exact h
theorem ok_what2 : SummOk Kn Try.prog 26 (sumT [.own 3, .any] false [.c (.p 0 0), .c (.i .i64)] [.lit [.i .i64, .h 1, .h 2], .mp (.i .i64) heldT, .row evT] F_what2) := sumT_view tok_rel2 Try.checked.mixed Try.func26 (by kernel_rfl) (by rfl) 20 [] ea_what2 eo_what2
  (by rintro ⟨⟨⟩, i, ⟨⟩⟩ ⟨⟨x, ⟨⟩, ⟨⟩, ⟨⟩⟩, m, e, ⟨⟩⟩; exact ⟨(x, m, e, i), rfl, rfl⟩) noL 3 (by rintro ⟨⟨x, ⟨⟩, ⟨⟩, ⟨⟩⟩, m, e, ⟨⟩⟩; rfl) (noL_ok _ _ _ _ _ _) E_what2 ev_what2 fe_what2
noncomputable def L_what2 : List (Nat × Summ) := (26, (sumT [.own 3, .any] false [.c (.p 0 0), .c (.i .i64)] [.lit [.i .i64, .h 1, .h 2], .mp (.i .i64) heldT, .row evT] F_what2)) :: L_rel2
theorem tok_what2 : TOk Kn Try.prog (lk L_what2) := lk_cons ok_what2 tok_rel2

def ea_evs : Int × Helds × Evs → denAs [.c (.p 0 0)] := fun ⟨x, m, e⟩ => ((), ())
def eo_evs : Int × Helds × Evs → denObs [.lit [.i .i64, .h 1, .h 2], .mp (.i .i64) heldT, .row evT] := fun ⟨x, m, e⟩ => ((x, (), (), ()), m, e, ())
noncomputable def E_evs : Int × Helds × Evs → Tree (AV × List Ob) := fun ⟨x, m, e⟩ => 
Tree.ite (decide ((0 : Int) ≤ (↑(List.length e) : Int)) && (decide ((↑(List.length e) : Int) ≤ (↑(List.length e) : Int)) && (decide ((↑(List.length e) : Int) ≤ (140737488355328 : Int)) && bytesOk (↑(List.length e) : Int).toNat (24 : Nat)))) (Tree.ret (AV.p (Part.one (Cell.h (3 : Nat))), [Ob.lit [Cell.v (Value.int IntKind.i64 x), Cell.h (1 : Nat), Cell.h (2 : Nat)], Ob.mp (Ty.i IntKind.i64) heldT m, Ob.row evT e, Ob.row (Tys.cons Ty.b (Tys.cons (Ty.i IntKind.i64) intsT)) (List.take (List.replicate (↑(List.length e) : Int).toNat (false, (0 : Int), (0 : Int), ())).length e ++ List.drop (List.length e) (List.replicate (↑(List.length e) : Int).toNat (false, (0 : Int), (0 : Int), ())))])) Tree.fail
noncomputable def F_evs : denAs [.c (.p 0 0)] → denObs [.lit [.i .i64, .h 1, .h 2], .mp (.i .i64) heldT, .row evT] → Tree (AV × List Ob) := fun x y => match x, y with
  | ((), ()), ((x, (), (), ()), m, e, ()) => ckP (e.length ≤ 1000000) (.ret (AV.c (.h 3), [Ob.lit [.v (.int .i64 (x)), .h 1, .h 2], Ob.mp (.i .i64) heldT m, Ob.row evT e, Ob.row evT e]))
theorem ev_evs : ∀ a, (evalFnL Try.prog (lk L_what2) 20 noL Try.f17 (Try.f17.body.getD .skip) [] (encAs [.c (.p 0 0)] (ea_evs a)) (encOs [.lit [.i .i64, .h 1, .h 2], .mp (.i .i64) heldT, .row evT] (eo_evs a))).run = (E_evs a).run := by
  rintro ⟨x, m, e⟩
  kernel_rfl
theorem fe_evs : ∀ a y, (F_evs (ea_evs a) (eo_evs a)).run = some y → (E_evs a).run = some y := by
  rintro ⟨x, m, e⟩ y h
  obtain ⟨h1, h4⟩ := ckP_run h
  change e.length ≤ 1000000 at h1
  simp only [E_evs]
  refine Eq.trans ?_ h4
  rw [show ((e.length : Int)).toNat = e.length from rfl, List.length_replicate, List.take_length, show List.drop e.length (List.replicate e.length ((false, (0 : Int), (0 : Int), ()) : Bool × Int × Int × Unit)) = [] from List.drop_eq_nil_of_le (by rw [List.length_replicate]; exact Nat.le_refl _), List.append_nil]
  exact (goT (by simp [bytesOk_dec]; omega)).trans rfl
theorem ok_evs : SummOk Kn Try.prog 17 (sumT [.own 3] false [.c (.p 0 0)] [.lit [.i .i64, .h 1, .h 2], .mp (.i .i64) heldT, .row evT] F_evs) := sumT_view tok_what2 Try.checked.mixed Try.func17 (by kernel_rfl) (by rfl) 20 [] ea_evs eo_evs
  (by rintro ⟨⟨⟩, ⟨⟩⟩ ⟨⟨x, ⟨⟩, ⟨⟩, ⟨⟩⟩, m, e, ⟨⟩⟩; exact ⟨(x, m, e), rfl, rfl⟩) noL 3 (by rintro ⟨⟨x, ⟨⟩, ⟨⟩, ⟨⟩⟩, m, e, ⟨⟩⟩; rfl) (noL_ok _ _ _ _ _ _) E_evs ev_evs fe_evs
noncomputable def L_evs : List (Nat × Summ) := (17, (sumT [.own 3] false [.c (.p 0 0)] [.lit [.i .i64, .h 1, .h 2], .mp (.i .i64) heldT, .row evT] F_evs)) :: L_what2
theorem tok_evs : TOk Kn Try.prog (lk L_evs) := lk_cons ok_evs tok_what2

noncomputable abbrev c_ints : Code := Try.f18.body.getD .skip
def p_ints : List Nat := [0, 1, 0, 1, 1]
def sh_ints : Shape := ⟨[(0, .c (.d intsT)), (1, .c (.d intsT)), (5, .c (.i .i64))], []⟩
@[reducible] def A_ints : Type := Ints × Ints × Int
def e_ints : A_ints → sh_ints.den := fun ⟨a, b, i⟩ => ((a, b, i, ()), ())
def v_ints : sh_ints.den → A_ints := fun d => match d with
  | ((a, b, i, ()), ()) => (a, b, i)
def I_ints : A_ints → Prop := fun ⟨a, b, i⟩ => 0 ≤ i ∧ a.length = b.length ∧ a.length ≤ 1000000 ∧ ∀ j : Nat, (j : Int) < i → a.getD j (0, ()) = b.getD j (0, ())
noncomputable def G_ints : A_ints → Tree (Ex × St) := fun ⟨a, b, i⟩ => .ite (decide (a = b)) (.ret (.exit 0, ⟨[], [], 0⟩)) (.ret (.ret, ⟨[(4, AV.c (.v (.bool false)))], [], 0⟩))
noncomputable def orc_ints : Orc := ⟨sh_ints, [], [4], [], fun d => ckP (I_ints (v_ints d)) (G_ints (v_ints d))⟩
noncomputable def LT_ints : LT := oneL p_ints orc_ints (noL)
noncomputable def T_ints : Ints × Ints × Int → Tree (A_ints ⊕ (Ex × St)) := fun ⟨a, b, i⟩ => 
Tree.ite (decide (i < (↑(List.length a) : Int))) (Tree.ite (decide ((0 : Int) ≤ i) && decide (i < (↑(List.length a) : Int))) (Tree.ite (decide ((0 : Int) ≤ i) && decide (i < (↑(List.length b) : Int))) (Tree.ite ((List.getD a i.toNat ((0 : Int), ())).fst != (List.getD b i.toNat ((0 : Int), ())).fst) (Tree.ret (Sum.inr (Ex.ret, { env := [((4 : Nat), AV.p (Part.one (Cell.v (Value.bool false))))], hp := [], nx := (0 : Nat) }))) (Tree.ret (Sum.inl (a, b, IntKind.i64.wrap (i + (1 : Int)))))) Tree.fail) Tree.fail) (Tree.ret (Sum.inr (Ex.exit (0 : Nat), { env := [], hp := [], nx := (0 : Nat) })))
theorem turn_ints : ∀ a : A_ints, (turnT 0 orc_ints (evalCode Try.prog (lk L_evs) Try.f18.ntmps 0 20 LT_ints (bodyAt c_ints p_ints) false (0 :: p_ints)) (sh_ints.enc (e_ints a))).run = ((T_ints a).bind fun s => .ret (turnV sh_ints e_ints s)).run := by
  rintro ⟨a, b, i⟩
  kernel_rfl

def μ_ints : A_ints → Nat := fun ⟨a, b, i⟩ => a.length - i.toNat
theorem step_ints : ∀ a : A_ints, I_ints a → (∃ a', (T_ints a).run = some (.inl a') ∧ I_ints a' ∧ μ_ints a' < μ_ints a ∧ (G_ints a').run = (G_ints a).run) ∨ (∃ y, (T_ints a).run = some (.inr y) ∧ (G_ints a).run = some y ∧ ((∃ id, y.1 = .exit id) ∨ y.1 = .ret)) := by
  rintro ⟨a, b, i⟩ ⟨h1, h2, h3, h4⟩
  simp only [T_ints]
  by_cases hi : i < a.length
  · rw [goTd hi, goTa ⟨h1, hi⟩, goTa ⟨h1, by omega⟩, wrap64 (n := i + 1) (by omega) (by omega)]
    by_cases he : a.getD i.toNat (0, ()) = b.getD i.toNat (0, ())
    · left
      rw [goF (by rw [bne_int]; exact decide_eq_false (fun g => g (congrArg Prod.fst he)))]
      refine ⟨_, rfl, ⟨by omega, h2, h3, fun j hj => ?_⟩, by simp only [μ_ints]; omega, rfl⟩
      by_cases hj' : (j : Int) < i
      · exact h4 j hj'
      · rw [show j = i.toNat by omega]; exact he
    · right
      rw [goT (by rw [bne_int]; exact decide_eq_true (fun e => he (Prod.ext e rfl)))]
      refine ⟨_, rfl, ?_, .inr rfl⟩
      simp only [G_ints]
      rw [goF (decide_eq_false fun e => he (by rw [e]))]; rfl
  · right
    rw [goFd hi]
    refine ⟨_, rfl, ?_, .inl ⟨0, rfl⟩⟩
    simp only [G_ints]
    rw [goT (decide_eq_true (List.ext_getElem h2 fun j g g' => by
      have := h4 j (by omega)
      simpa [List.getD, List.getElem?_eq_getElem g, List.getElem?_eq_getElem g'] using this))]; rfl
theorem lok_ints : LOk Try.prog (lk L_evs) Try.f18.ntmps 0 20 LT_ints c_ints := lok_view (noL_ok2 _ _ _ _ _ _ _) (by kernel_rfl) e_ints (by rintro ⟨⟨a, b, i, ⟨⟩⟩, ⟨⟩⟩; exact ⟨(a, b, i), rfl⟩) T_ints turn_ints I_ints G_ints (by rintro ⟨a, b, i⟩; rfl) μ_ints step_ints
def ea_ints : Ints × Ints → denAs [.c (.d intsT), .c (.d intsT)] := fun ⟨a, b⟩ => (a, b, ())
def eo_ints : Ints × Ints → denObs [] := fun ⟨a, b⟩ => ()
noncomputable def E_ints : Ints × Ints → Tree (AV × List Ob) := fun ⟨a, b⟩ => 
Tree.ite ((↑(List.length a) : Int) != (↑(List.length b) : Int)) (Tree.ret (AV.p (Part.one (Cell.v (Value.bool false))), [])) (Tree.ite (decC ((0 : Int) ≤ (0 : Int) ∧ List.length a = List.length b ∧ List.length a ≤ (1000000 : Nat) ∧ ∀ (j : Nat), (↑j : Int) < (0 : Int) → List.getD a j ((0 : Int), ()) = List.getD b j ((0 : Int), ()))) (Tree.ite (decide (a = b)) (Tree.ret (AV.p (Part.one (Cell.v (Value.bool true))), [])) (Tree.ret (AV.p (Part.one (Cell.v (Value.bool false))), []))) Tree.fail)
noncomputable def F_ints : denAs [.c (.d intsT), .c (.d intsT)] → denObs [] → Tree (AV × List Ob) := fun x y => match x, y with
  | (a, b, ()), () => ckP (a.length ≤ 1000000 ∧ b.length ≤ 1000000) (.ret (AV.b (decide (a = b)), []))
theorem ev_ints : ∀ a, (evalFnL Try.prog (lk L_evs) 20 LT_ints Try.f18 c_ints [] (encAs [.c (.d intsT), .c (.d intsT)] (ea_ints a)) (encOs [] (eo_ints a))).run = (E_ints a).run := by
  rintro ⟨a, b⟩
  kernel_rfl
theorem fe_ints : ∀ a y, (F_ints (ea_ints a) (eo_ints a)).run = some y → (E_ints a).run = some y := by
  rintro ⟨a, b⟩ y h
  obtain ⟨⟨h1, h2⟩, h⟩ := ckP_run h
  rw [← h]
  dsimp only [E_ints]
  change _ = some (AV.b (decide (a = b)), [])
  by_cases hl : a.length = b.length
  · refine (goFne (by omega)).trans ((goT (decP ⟨Int.le_refl 0, hl, h1, fun j hj => by omega⟩)).trans ?_)
    cases decide (a = b) <;> rfl
  · refine (goTne (by omega)).trans ?_
    rw [show decide (a = b) = false from decide_eq_false fun e => hl (by rw [e])]; rfl
theorem ok_ints : SummOk Kn Try.prog 18 (sumT [.dp intsT, .dp intsT] false [.c (.d intsT), .c (.d intsT)] [] F_ints) := sumT_view tok_evs Try.checked.mixed Try.func18 (by kernel_rfl) (by rfl) 20 [] ea_ints eo_ints
  (by rintro ⟨a, b, ⟨⟩⟩ ⟨⟩; exact ⟨(a, b), rfl, rfl⟩) LT_ints 0 (by rintro ⟨⟩; rfl) lok_ints E_ints ev_ints fe_ints
noncomputable def L_ints : List (Nat × Summ) := (18, (sumT [.dp intsT, .dp intsT] false [.c (.d intsT), .c (.d intsT)] [] F_ints)) :: L_evs
theorem tok_ints : TOk Kn Try.prog (lk L_ints) := lk_cons ok_ints tok_evs

end Go.Proofs.Ytebimchjglckoaa.led
