/-
  What tells whether a map without a type may be; the law of maps' definitions (written by our own gen_obb.py).
-/
import Derived.Test.YtdkgeoadeljcpaaGreatObA
namespace Go.Proofs.YtdkgeoadeljcpaaGreat
open Go Go.Sy Go.Sz Go.In Go.Ob Go.Proofs.YtdkgeoadeljcpaaGreat
set_option linter.unusedVariables false
set_option linter.unusedSimpArgs false
set_option linter.constructorNameAsVariable false
set_option maxRecDepth 100000

theorem ok_valued : SummOk Kn Tryz.prog 30 (sumE [.any, .dp typeT] false Tryz.prog (lk L_kn1) 20 Tryz.f30 (Tryz.f30.body.getD .skip) []) := sumE_ok tok_kn1 Tryz.checked.mixed Tryz.func30 (by kernel_rfl) (by rfl) 20 []
noncomputable def L_valued : List (Nat × Summ) := (30, (sumE [.any, .dp typeT] false Tryz.prog (lk L_kn1) 20 Tryz.f30 (Tryz.f30.body.getD .skip) [])) :: L_kn1
theorem tok_valued : TOk Kn Tryz.prog (lk L_valued) := lk_cons ok_valued tok_kn1

theorem ok_def_1 : SummOk Kn Tryz.prog 29 (sumE [.any, .dp typeT] false Tryz.prog (lk L_valued) 20 Tryz.f29 (Tryz.f29.body.getD .skip) []) := sumE_ok tok_valued Tryz.checked.mixed Tryz.func29 (by kernel_rfl) (by rfl) 20 []
noncomputable def L_def_1 : List (Nat × Summ) := (29, (sumE [.any, .dp typeT] false Tryz.prog (lk L_valued) 20 Tryz.f29 (Tryz.f29.body.getD .skip) [])) :: L_valued
theorem tok_def_1 : TOk Kn Tryz.prog (lk L_def_1) := lk_cons ok_def_1 tok_valued

theorem ok_def_2 : SummOk Kn Tryz.prog 31 (sumE [.any, .dp typeT] false Tryz.prog (lk L_def_1) 20 Tryz.f31 (Tryz.f31.body.getD .skip) []) := sumE_ok tok_def_1 Tryz.checked.mixed Tryz.func31 (by kernel_rfl) (by rfl) 20 []
noncomputable def L_def_2 : List (Nat × Summ) := (31, (sumE [.any, .dp typeT] false Tryz.prog (lk L_def_1) 20 Tryz.f31 (Tryz.f31.body.getD .skip) [])) :: L_def_1
theorem tok_def_2 : TOk Kn Tryz.prog (lk L_def_2) := lk_cons ok_def_2 tok_def_1

theorem ok_def_3 : SummOk Kn Tryz.prog 33 (sumE [.any, .dp typeT] false Tryz.prog (lk L_def_2) 20 Tryz.f33 (Tryz.f33.body.getD .skip) []) := sumE_ok tok_def_2 Tryz.checked.mixed Tryz.func33 (by kernel_rfl) (by rfl) 20 []
noncomputable def L_def_3 : List (Nat × Summ) := (33, (sumE [.any, .dp typeT] false Tryz.prog (lk L_def_2) 20 Tryz.f33 (Tryz.f33.body.getD .skip) [])) :: L_def_2
theorem tok_def_3 : TOk Kn Tryz.prog (lk L_def_3) := lk_cons ok_def_3 tok_def_2

theorem ok_def_4 : SummOk Kn Tryz.prog 35 (sumE [.any, .dp typeT] false Tryz.prog (lk L_def_3) 20 Tryz.f35 (Tryz.f35.body.getD .skip) []) := sumE_ok tok_def_3 Tryz.checked.mixed Tryz.func35 (by kernel_rfl) (by rfl) 20 []
noncomputable def L_def_4 : List (Nat × Summ) := (35, (sumE [.any, .dp typeT] false Tryz.prog (lk L_def_3) 20 Tryz.f35 (Tryz.f35.body.getD .skip) [])) :: L_def_3
theorem tok_def_4 : TOk Kn Tryz.prog (lk L_def_4) := lk_cons ok_def_4 tok_def_3

def valB (v e : Int) (t : Bool) : Bool := decide (1 ≤ v) && (decide (v ≤ 256) && ((bif t then !decide (v < 16) else true) && (decide (1 ≤ e) && decide (e ≤ 64))))
/-- may a map without a type be? -/
def defB (d k v e : Int) (t : Bool) : Bool :=
  if d = 1 then (k == 4) && valB v e t else if d = 2 then decide (1 ≤ k) && (decide (k ≤ 16) && valB v e t) else if d = 3 then (k == 4) && ((v == 4) && (decide (1 ≤ e) && (decide (e ≤ 64) && !t))) else
  if d = 4 then (k == 0) && ((v == 0) && (decide (8 ≤ e) && (decide (e ≤ 4096) && ((e.tmod 8 == 0) && !t)))) else false
def defI (d k v e : Int) (t : Bool) : Int := bif defB d k v e t then 0 else 51
def ea_def : Int × Int × Int × Int × Bool × Int × Types → denAs [.p (.many [.i .i64, .i .i64, .i .i64, .i .i64, .b, .i .i64]), .c (.d typeT)] := fun ⟨d, k, v, e, t, y, l⟩ => ((d, k, v, e, t, y, ()), l, ())
def eo_def : Int × Int × Int × Int × Bool × Int × Types → denObs [] := fun ⟨d, k, v, e, t, y, l⟩ => ()
noncomputable def E_def : Int × Int × Int × Int × Bool × Int × Types → Tree (AV × List Ob) := fun ⟨d, k, v, e, t, y, l⟩ => 
Tree.ite (decide ((1 : Int) ≤ d)) (Tree.ite (!!decide (d ≤ (4 : Int))) (Tree.ite (decide ((0 : Int) ≤ d) && decide (d < (5 : Int))) (Tree.ite (d.toNat.beq (0 : Nat)) Tree.fail (Tree.ite (d.toNat.beq (1 : Nat)) (Tree.ite (k == (4 : Int)) (Tree.ite (decide ((1 : Int) ≤ v)) (Tree.ite (!!decide (v ≤ (256 : Int))) (Tree.ite t (Tree.ite (!decide (v < (16 : Int))) (Tree.ite (decide ((1 : Int) ≤ e)) (Tree.ite (!decide (e ≤ (64 : Int))) (Tree.ret (AV.p (Part.one (Cell.v (Value.int IntKind.i64 (51 : Int)))), [])) (Tree.ite (y == (0 : Int)) (Tree.ret (AV.p (Part.one (Cell.v (Value.int IntKind.i64 (0 : Int)))), [])) Tree.fail)) (Tree.ret (AV.p (Part.one (Cell.v (Value.int IntKind.i64 (51 : Int)))), []))) (Tree.ret (AV.p (Part.one (Cell.v (Value.int IntKind.i64 (51 : Int)))), []))) (Tree.ite (decide ((1 : Int) ≤ e)) (Tree.ite (!decide (e ≤ (64 : Int))) (Tree.ret (AV.p (Part.one (Cell.v (Value.int IntKind.i64 (51 : Int)))), [])) (Tree.ite (y == (0 : Int)) (Tree.ret (AV.p (Part.one (Cell.v (Value.int IntKind.i64 (0 : Int)))), [])) Tree.fail)) (Tree.ret (AV.p (Part.one (Cell.v (Value.int IntKind.i64 (51 : Int)))), [])))) (Tree.ret (AV.p (Part.one (Cell.v (Value.int IntKind.i64 (51 : Int)))), []))) (Tree.ret (AV.p (Part.one (Cell.v (Value.int IntKind.i64 (51 : Int)))), []))) (Tree.ret (AV.p (Part.one (Cell.v (Value.int IntKind.i64 (51 : Int)))), []))) (Tree.ite (d.toNat.beq (2 : Nat)) (Tree.ite (decide ((1 : Int) ≤ k)) (Tree.ite (decide (k ≤ (16 : Int))) (Tree.ite (decide ((1 : Int) ≤ v)) (Tree.ite (!!decide (v ≤ (256 : Int))) (Tree.ite t (Tree.ite (!decide (v < (16 : Int))) (Tree.ite (decide ((1 : Int) ≤ e)) (Tree.ite (!decide (e ≤ (64 : Int))) (Tree.ret (AV.p (Part.one (Cell.v (Value.int IntKind.i64 (51 : Int)))), [])) (Tree.ite (y == (0 : Int)) (Tree.ret (AV.p (Part.one (Cell.v (Value.int IntKind.i64 (0 : Int)))), [])) Tree.fail)) (Tree.ret (AV.p (Part.one (Cell.v (Value.int IntKind.i64 (51 : Int)))), []))) (Tree.ret (AV.p (Part.one (Cell.v (Value.int IntKind.i64 (51 : Int)))), []))) (Tree.ite (decide ((1 : Int) ≤ e)) (Tree.ite (!decide (e ≤ (64 : Int))) (Tree.ret (AV.p (Part.one (Cell.v (Value.int IntKind.i64 (51 : Int)))), [])) (Tree.ite (y == (0 : Int)) (Tree.ret (AV.p (Part.one (Cell.v (Value.int IntKind.i64 (0 : Int)))), [])) Tree.fail)) (Tree.ret (AV.p (Part.one (Cell.v (Value.int IntKind.i64 (51 : Int)))), [])))) (Tree.ret (AV.p (Part.one (Cell.v (Value.int IntKind.i64 (51 : Int)))), []))) (Tree.ret (AV.p (Part.one (Cell.v (Value.int IntKind.i64 (51 : Int)))), []))) (Tree.ret (AV.p (Part.one (Cell.v (Value.int IntKind.i64 (51 : Int)))), []))) (Tree.ret (AV.p (Part.one (Cell.v (Value.int IntKind.i64 (51 : Int)))), []))) (Tree.ite (d.toNat.beq (3 : Nat)) (Tree.ite (k == (4 : Int)) (Tree.ite (v == (4 : Int)) (Tree.ite (decide ((1 : Int) ≤ e)) (Tree.ite (decide (e ≤ (64 : Int))) (Tree.ite (!t) (Tree.ite (!y == (0 : Int)) (Tree.ret (AV.p (Part.one (Cell.v (Value.int IntKind.i64 (51 : Int)))), [])) (Tree.ret (AV.p (Part.one (Cell.v (Value.int IntKind.i64 (0 : Int)))), []))) (Tree.ret (AV.p (Part.one (Cell.v (Value.int IntKind.i64 (51 : Int)))), []))) (Tree.ret (AV.p (Part.one (Cell.v (Value.int IntKind.i64 (51 : Int)))), []))) (Tree.ret (AV.p (Part.one (Cell.v (Value.int IntKind.i64 (51 : Int)))), []))) (Tree.ret (AV.p (Part.one (Cell.v (Value.int IntKind.i64 (51 : Int)))), []))) (Tree.ret (AV.p (Part.one (Cell.v (Value.int IntKind.i64 (51 : Int)))), []))) (Tree.ite (d.toNat.beq (4 : Nat)) (Tree.ite (k == (0 : Int)) (Tree.ite (v == (0 : Int)) (Tree.ite (decide ((8 : Int) ≤ e)) (Tree.ite (decide (e ≤ (4096 : Int))) (Tree.ite (e.tmod (8 : Int) == (0 : Int)) (Tree.ite (!t) (Tree.ite (!y == (0 : Int)) (Tree.ret (AV.p (Part.one (Cell.v (Value.int IntKind.i64 (51 : Int)))), [])) (Tree.ret (AV.p (Part.one (Cell.v (Value.int IntKind.i64 (0 : Int)))), []))) (Tree.ret (AV.p (Part.one (Cell.v (Value.int IntKind.i64 (51 : Int)))), []))) (Tree.ret (AV.p (Part.one (Cell.v (Value.int IntKind.i64 (51 : Int)))), []))) (Tree.ret (AV.p (Part.one (Cell.v (Value.int IntKind.i64 (51 : Int)))), []))) (Tree.ret (AV.p (Part.one (Cell.v (Value.int IntKind.i64 (51 : Int)))), []))) (Tree.ret (AV.p (Part.one (Cell.v (Value.int IntKind.i64 (51 : Int)))), []))) (Tree.ret (AV.p (Part.one (Cell.v (Value.int IntKind.i64 (51 : Int)))), []))) Tree.fail))))) Tree.fail) (Tree.ret (AV.p (Part.one (Cell.v (Value.int IntKind.i64 (51 : Int)))), []))) (Tree.ret (AV.p (Part.one (Cell.v (Value.int IntKind.i64 (51 : Int)))), []))
noncomputable def F_def : denAs [.p (.many [.i .i64, .i .i64, .i .i64, .i .i64, .b, .i .i64]), .c (.d typeT)] → denObs [] → Tree (AV × List Ob) := fun x y => match x, y with
  | ((d, k, v, e, t, y, ()), l, ()), () => ckP (y = 0) (.ret (AV.c (.v (.int .i64 (defI d k v e t))), []))
theorem ev_def : ∀ a, (evalFnL Tryz.prog (lk L_def_4) 30 noL Tryz.f13 (Tryz.f13.body.getD .skip) [] (encAs [.p (.many [.i .i64, .i .i64, .i .i64, .i .i64, .b, .i .i64]), .c (.d typeT)] (ea_def a)) (encOs [] (eo_def a))).run = (E_def a).run := by
  rintro ⟨d, k, v, e, t, y, l⟩
  kernel_rfl
theorem fe_def : ∀ a y, (F_def (ea_def a) (eo_def a)).run = some y → (E_def a).run = some y := by
  rintro ⟨d, k, v, e, t, y, l⟩ u h
  obtain ⟨h0, h'⟩ := ckP_run h
  change y = 0 at h0
  subst h0
  rw [← h']
  change _ = some (AV.c (.v (.int .i64 (defI d k v e t))), ([] : List Ob))
  simp only [E_def]
  by_cases h1 : d = 1
  · subst h1
    have hd : defI 1 k v e t = bif (k == 4) && valB v e t then 0 else 51 := rfl
    rw [hd]
    refine (goT (by decide)).trans ((goT (by decide)).trans ((goT (by decide)).trans ((goF (by decide)).trans ((goT (by decide)).trans ?_))))
    unfold valB
    generalize (k == 4) = a1
    generalize decide (1 ≤ v) = a2
    generalize decide (v ≤ 256) = a3
    generalize decide (v < 16) = a4
    generalize decide (1 ≤ e) = a5
    generalize decide (e ≤ 64) = a6
    cases a1 <;> cases a2 <;> cases a3 <;> cases t <;> cases a4 <;> cases a5 <;> cases a6 <;> rfl
  by_cases h2 : d = 2
  · subst h2
    have hd : defI 2 k v e t = bif decide (1 ≤ k) && (decide (k ≤ 16) && valB v e t) then 0 else 51 := rfl
    rw [hd]
    refine (goT (by decide)).trans ((goT (by decide)).trans ((goT (by decide)).trans ((goF (by decide)).trans ((goF (by decide)).trans ((goT (by decide)).trans ?_)))))
    unfold valB
    generalize decide (1 ≤ k) = a1
    generalize decide (k ≤ 16) = a7
    generalize decide (1 ≤ v) = a2
    generalize decide (v ≤ 256) = a3
    generalize decide (v < 16) = a4
    generalize decide (1 ≤ e) = a5
    generalize decide (e ≤ 64) = a6
    cases a1 <;> cases a7 <;> cases a2 <;> cases a3 <;> cases t <;> cases a4 <;> cases a5 <;> cases a6 <;> rfl
  by_cases h3 : d = 3
  · subst h3
    have hd : defI 3 k v e t = bif (k == 4) && ((v == 4) && (decide (1 ≤ e) && (decide (e ≤ 64) && !t))) then 0 else 51 := rfl
    rw [hd]
    refine (goT (by decide)).trans ((goT (by decide)).trans ((goT (by decide)).trans ((goF (by decide)).trans ((goF (by decide)).trans ((goF (by decide)).trans ((goT (by decide)).trans ?_))))))
    generalize (k == 4) = a1
    generalize (v == 4) = a2
    generalize decide (1 ≤ e) = a5
    generalize decide (e ≤ 64) = a6
    cases a1 <;> cases a2 <;> cases t <;> cases a5 <;> cases a6 <;> rfl
  by_cases h4 : d = 4
  · subst h4
    have hd : defI 4 k v e t = bif (k == 0) && ((v == 0) && (decide (8 ≤ e) && (decide (e ≤ 4096) && ((e.tmod 8 == 0) && !t)))) then 0 else 51 := rfl
    rw [hd]
    refine (goT (by decide)).trans ((goT (by decide)).trans ((goT (by decide)).trans ((goF (by decide)).trans ((goF (by decide)).trans ((goF (by decide)).trans ((goF (by decide)).trans ((goT (by decide)).trans ?_)))))))
    generalize (k == 0) = a1
    generalize (v == 0) = a2
    generalize decide (8 ≤ e) = a5
    generalize decide (e ≤ 4096) = a6
    generalize (e.tmod 8 == 0) = a7
    cases a1 <;> cases a2 <;> cases t <;> cases a5 <;> cases a6 <;> cases a7 <;> rfl
  have hd : defI d k v e t = 51 := by unfold defI defB; rw [if_neg h1, if_neg h2, if_neg h3, if_neg h4]; rfl
  rw [hd]
  by_cases h5 : 1 ≤ d
  · exact (goTd h5).trans (goF (by rw [decide_eq_false (by omega)]; rfl))
  · exact goFd h5
theorem ok_def : SummOk Kn Tryz.prog 13 (sumT [.any, .dp typeT] false [.p (.many [.i .i64, .i .i64, .i .i64, .i .i64, .b, .i .i64]), .c (.d typeT)] [] F_def) := sumT_view tok_def_4 Tryz.checked.mixed Tryz.func13 (by kernel_rfl) (by rfl) 30 [] ea_def eo_def
  (by rintro ⟨⟨d, k, v, e, t, y, ⟨⟩⟩, l, ⟨⟩⟩ ⟨⟩; exact ⟨(d, k, v, e, t, y, l), rfl, rfl⟩) noL 0 (by rintro ⟨⟩; rfl) (noL_ok _ _ _ _ _ _) E_def ev_def fe_def
noncomputable def L_def : List (Nat × Summ) := (13, (sumT [.any, .dp typeT] false [.p (.many [.i .i64, .i .i64, .i .i64, .i .i64, .b, .i .i64]), .c (.d typeT)] [] F_def)) :: L_def_4
theorem tok_def : TOk Kn Tryz.prog (lk L_def) := lk_cons ok_def tok_def_4

noncomputable def E_defs : Int × Int × Int × Int × Bool → Tree (AV × List Ob) := fun ⟨d, k, v, e, t⟩ => 
Tree.ite (d == (1 : Int)) (Tree.ite (k == (4 : Int)) (Tree.ite (decide ((1 : Int) ≤ v)) (Tree.ite (decide (v ≤ (256 : Int))) (Tree.ite (decide ((1 : Int) ≤ e)) (Tree.ite (decide (e ≤ (64 : Int))) (Tree.ite (!!t) (Tree.ite (decC ((0 : Int) = (0 : Int))) (Tree.ret (AV.p (Part.one (Cell.v (Value.bool ((defI d k v e t == (0 : Int)) == decide ((16 : Int) ≤ v))))), [])) Tree.fail) (Tree.ite (decC ((0 : Int) = (0 : Int))) (Tree.ret (AV.p (Part.one (Cell.v (Value.bool ((defI d k v e t == (0 : Int)) == true)))), [])) Tree.fail)) (Tree.ite (decC ((0 : Int) = (0 : Int))) (Tree.ret (AV.p (Part.one (Cell.v (Value.bool ((defI d k v e t == (0 : Int)) == false)))), [])) Tree.fail)) (Tree.ite (decC ((0 : Int) = (0 : Int))) (Tree.ret (AV.p (Part.one (Cell.v (Value.bool ((defI d k v e t == (0 : Int)) == false)))), [])) Tree.fail)) (Tree.ite (decC ((0 : Int) = (0 : Int))) (Tree.ret (AV.p (Part.one (Cell.v (Value.bool ((defI d k v e t == (0 : Int)) == false)))), [])) Tree.fail)) (Tree.ite (decC ((0 : Int) = (0 : Int))) (Tree.ret (AV.p (Part.one (Cell.v (Value.bool ((defI d k v e t == (0 : Int)) == false)))), [])) Tree.fail)) (Tree.ite (decC ((0 : Int) = (0 : Int))) (Tree.ret (AV.p (Part.one (Cell.v (Value.bool ((defI d k v e t == (0 : Int)) == false)))), [])) Tree.fail)) (Tree.ite (d == (2 : Int)) (Tree.ite (decide ((1 : Int) ≤ k)) (Tree.ite (decide (k ≤ (16 : Int))) (Tree.ite (decide ((1 : Int) ≤ v)) (Tree.ite (decide (v ≤ (256 : Int))) (Tree.ite (decide ((1 : Int) ≤ e)) (Tree.ite (decide (e ≤ (64 : Int))) (Tree.ite (!!t) (Tree.ite (decC ((0 : Int) = (0 : Int))) (Tree.ret (AV.p (Part.one (Cell.v (Value.bool ((defI d k v e t == (0 : Int)) == decide ((16 : Int) ≤ v))))), [])) Tree.fail) (Tree.ite (decC ((0 : Int) = (0 : Int))) (Tree.ret (AV.p (Part.one (Cell.v (Value.bool ((defI d k v e t == (0 : Int)) == true)))), [])) Tree.fail)) (Tree.ite (decC ((0 : Int) = (0 : Int))) (Tree.ret (AV.p (Part.one (Cell.v (Value.bool ((defI d k v e t == (0 : Int)) == false)))), [])) Tree.fail)) (Tree.ite (decC ((0 : Int) = (0 : Int))) (Tree.ret (AV.p (Part.one (Cell.v (Value.bool ((defI d k v e t == (0 : Int)) == false)))), [])) Tree.fail)) (Tree.ite (decC ((0 : Int) = (0 : Int))) (Tree.ret (AV.p (Part.one (Cell.v (Value.bool ((defI d k v e t == (0 : Int)) == false)))), [])) Tree.fail)) (Tree.ite (decC ((0 : Int) = (0 : Int))) (Tree.ret (AV.p (Part.one (Cell.v (Value.bool ((defI d k v e t == (0 : Int)) == false)))), [])) Tree.fail)) (Tree.ite (decC ((0 : Int) = (0 : Int))) (Tree.ret (AV.p (Part.one (Cell.v (Value.bool ((defI d k v e t == (0 : Int)) == false)))), [])) Tree.fail)) (Tree.ite (decC ((0 : Int) = (0 : Int))) (Tree.ret (AV.p (Part.one (Cell.v (Value.bool ((defI d k v e t == (0 : Int)) == false)))), [])) Tree.fail)) (Tree.ite (d == (3 : Int)) (Tree.ite (k == (4 : Int)) (Tree.ite (v == (4 : Int)) (Tree.ite (decide ((1 : Int) ≤ e)) (Tree.ite (decide (e ≤ (64 : Int))) (Tree.ite (decC ((0 : Int) = (0 : Int))) (Tree.ret (AV.p (Part.one (Cell.v (Value.bool ((defI d k v e t == (0 : Int)) == !t)))), [])) Tree.fail) (Tree.ite (decC ((0 : Int) = (0 : Int))) (Tree.ret (AV.p (Part.one (Cell.v (Value.bool ((defI d k v e t == (0 : Int)) == false)))), [])) Tree.fail)) (Tree.ite (decC ((0 : Int) = (0 : Int))) (Tree.ret (AV.p (Part.one (Cell.v (Value.bool ((defI d k v e t == (0 : Int)) == false)))), [])) Tree.fail)) (Tree.ite (decC ((0 : Int) = (0 : Int))) (Tree.ret (AV.p (Part.one (Cell.v (Value.bool ((defI d k v e t == (0 : Int)) == false)))), [])) Tree.fail)) (Tree.ite (decC ((0 : Int) = (0 : Int))) (Tree.ret (AV.p (Part.one (Cell.v (Value.bool ((defI d k v e t == (0 : Int)) == false)))), [])) Tree.fail)) (Tree.ite (d == (4 : Int)) (Tree.ite (k == (0 : Int)) (Tree.ite (v == (0 : Int)) (Tree.ite (decide ((8 : Int) ≤ e)) (Tree.ite (decide (e ≤ (4096 : Int))) (Tree.ite (e.tmod (8 : Int) == (0 : Int)) (Tree.ite (decC ((0 : Int) = (0 : Int))) (Tree.ret (AV.p (Part.one (Cell.v (Value.bool ((defI d k v e t == (0 : Int)) == !t)))), [])) Tree.fail) (Tree.ite (decC ((0 : Int) = (0 : Int))) (Tree.ret (AV.p (Part.one (Cell.v (Value.bool ((defI d k v e t == (0 : Int)) == false)))), [])) Tree.fail)) (Tree.ite (decC ((0 : Int) = (0 : Int))) (Tree.ret (AV.p (Part.one (Cell.v (Value.bool ((defI d k v e t == (0 : Int)) == false)))), [])) Tree.fail)) (Tree.ite (decC ((0 : Int) = (0 : Int))) (Tree.ret (AV.p (Part.one (Cell.v (Value.bool ((defI d k v e t == (0 : Int)) == false)))), [])) Tree.fail)) (Tree.ite (decC ((0 : Int) = (0 : Int))) (Tree.ret (AV.p (Part.one (Cell.v (Value.bool ((defI d k v e t == (0 : Int)) == false)))), [])) Tree.fail)) (Tree.ite (decC ((0 : Int) = (0 : Int))) (Tree.ret (AV.p (Part.one (Cell.v (Value.bool ((defI d k v e t == (0 : Int)) == false)))), [])) Tree.fail)) (Tree.ite (decC ((0 : Int) = (0 : Int))) (Tree.ret (AV.p (Part.one (Cell.v (Value.bool ((defI d k v e t == (0 : Int)) == false)))), [])) Tree.fail))))
theorem ev_defs (d : Int) (k : Int) (v : Int) (e : Int) (t : Bool) : (evalFnL Tryz.prog (lk L_def) 30 noL Tryz.f7 (Tryz.f7.body.getD .skip) [] [.p (.one (.v (.int .i64 d))), .p (.one (.v (.int .i64 k))), .p (.one (.v (.int .i64 v))), .p (.one (.v (.int .i64 e))), .p (.one (.v (.bool t)))] []).run = (E_defs (d, k, v, e, t)).run := by kernel_rfl

theorem true_defs (d : Int) (k : Int) (v : Int) (e : Int) (t : Bool) (hok : okS [.one (.i .i64), .one (.i .i64), .one (.i .i64), .one (.i .i64), .one .b] (d, k, v, e, t, ())) : (E_defs (d, k, v, e, t)).run = some (AV.b true, []) := by
  simp only [E_defs]
  rw [show decC True = true from decP trivial, show decide ((16 : Int) ≤ v) = !decide (v < 16) by by_cases h : v < 16 <;> simp [h] <;> omega]
  by_cases h1 : d = 1
  · subst h1
    have hd : defI 1 k v e t = bif (k == 4) && valB v e t then 0 else 51 := rfl
    rw [hd]
    refine (goTe rfl).trans ?_
    unfold valB
    generalize (k == 4) = a1
    generalize decide (1 ≤ v) = a2
    generalize decide (v ≤ 256) = a3
    generalize decide (v < 16) = a4
    generalize decide (1 ≤ e) = a5
    generalize decide (e ≤ 64) = a6
    cases a1 <;> cases a2 <;> cases a3 <;> cases t <;> cases a4 <;> cases a5 <;> cases a6 <;> rfl
  by_cases h2 : d = 2
  · subst h2
    have hd : defI 2 k v e t = bif decide (1 ≤ k) && (decide (k ≤ 16) && valB v e t) then 0 else 51 := rfl
    rw [hd]
    refine (goFe (by decide)).trans ((goTe rfl).trans ?_)
    unfold valB
    generalize decide (1 ≤ k) = a1
    generalize decide (k ≤ 16) = a7
    generalize decide (1 ≤ v) = a2
    generalize decide (v ≤ 256) = a3
    generalize decide (v < 16) = a4
    generalize decide (1 ≤ e) = a5
    generalize decide (e ≤ 64) = a6
    cases a1 <;> cases a7 <;> cases a2 <;> cases a3 <;> cases t <;> cases a4 <;> cases a5 <;> cases a6 <;> rfl
  by_cases h3 : d = 3
  · subst h3
    have hd : defI 3 k v e t = bif (k == 4) && ((v == 4) && (decide (1 ≤ e) && (decide (e ≤ 64) && !t))) then 0 else 51 := rfl
    rw [hd]
    refine (goFe (by decide)).trans ((goFe (by decide)).trans ((goTe rfl).trans ?_))
    generalize (k == 4) = a1
    generalize (v == 4) = a2
    generalize decide (1 ≤ e) = a5
    generalize decide (e ≤ 64) = a6
    cases a1 <;> cases a2 <;> cases t <;> cases a5 <;> cases a6 <;> rfl
  by_cases h4 : d = 4
  · subst h4
    have hd : defI 4 k v e t = bif (k == 0) && ((v == 0) && (decide (8 ≤ e) && (decide (e ≤ 4096) && ((e.tmod 8 == 0) && !t)))) then 0 else 51 := rfl
    rw [hd]
    refine (goFe (by decide)).trans ((goFe (by decide)).trans ((goFe (by decide)).trans ((goTe rfl).trans ?_)))
    generalize (k == 0) = a1
    generalize (v == 0) = a2
    generalize decide (8 ≤ e) = a5
    generalize decide (e ≤ 4096) = a6
    generalize (e.tmod 8 == 0) = a7
    cases a1 <;> cases a2 <;> cases t <;> cases a5 <;> cases a6 <;> cases a7 <;> rfl
  have hd : defI d k v e t = 51 := by unfold defI defB; rw [if_neg h1, if_neg h2, if_neg h3, if_neg h4]; rfl
  rw [hd]
  exact (goFe h1).trans ((goFe h2).trans ((goFe h3).trans ((goFe h4).trans rfl)))
theorem lifted_defs (os : Os) (started : os.Started) : ∀ {H : Type} (enc : TypeId × Value → H), ReturnsInHanded {} Tryz.checked os 7 .any (Rows.objectDefsSpec.pre6 enc Tryz.prog Tryz.f7 [] false) (Rows.objectDefsSpec.post enc Tryz.prog Tryz.f7 false true false false) := by
  intro H enc
  refine law_lifted (by kernel_rfl) (by kernel_rfl) started (by kernel_rfl) Tryz.func7 rfl ?_ rfl (by kernel_rfl) ?_
    (ChangeSpec.witness6 (enc := enc) (C := Tryz.checked) false ⟨#[], #[.int .i64 0, .int .i64 0, .int .i64 0, .int .i64 0, .bool false], []⟩ 8 (by kernel_rfl) (by kernel_rfl) (by kernel_rfl) (by kernel_rfl)) ?_
  · exact of_decide_eq_true (by kernel_rfl)
  · intro ds hds
    match ds, hds with
    | [d0, d1, d2, d3, d4], _ => rfl
  · intro W base args ds before hval htrod
    refine law_data (K := Kn) tok_def Tryz.checked.mixed Tryz.func7 (by rfl) 30 4 (rc := []) (sh := [.one (.i .i64), .one (.i .i64), .one (.i .i64), .one (.i .i64), .one .b]) (by kernel_rfl) ?_ W trivial base args ds before hval htrod
    rintro ⟨d, k, v, e, t, ⟨⟩⟩ hok
    exact ⟨noL, (noL_ok _ _ _ _ _ _), (ev_defs d k v e t).trans (true_defs d k v e t hok)⟩
theorem over_defs : Rows.objectDefsRow.holds Tryz.pinned (OpenSpec.ofChange Rows.objectDefsSpec) :=
  OpenClaim.holds_of_wide 7 Tryz.f7 rfl rfl rfl rfl rfl rfl rfl ⟨rfl, rfl, rfl, rfl, rfl⟩ rfl rfl rfl rfl rfl (by kernel_rfl) Tryz.func7 (by kernel_rfl)
    (of_decide_eq_true (by kernel_rfl)) (by unfold Func.isWrapper; first | (rw [if_pos (by decide +kernel)]; kernel_rfl) | (rw [if_neg (by decide +kernel)]; exact ⟨rfl, rfl⟩))
    (fun os started H enc _ => lifted_defs os started enc)
theorem holds_defs : Rows.ObjectDefsSaid := over_defs
end Go.Proofs.YtdkgeoadeljcpaaGreat
