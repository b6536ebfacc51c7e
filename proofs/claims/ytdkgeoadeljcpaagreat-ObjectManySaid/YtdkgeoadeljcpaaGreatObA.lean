/-
  The contracts of package object where an object has no types (written by our own gen_oba.py).
-/
import Derived.Test.YtdkgeoadeljcpaaGreatInG
import Derived.Test.YtdkgeoadeljcpaaGreatObS
import Derived.Test.YtdkgeoadeljcpaaGreatSzAJ
namespace Go.Proofs.YtdkgeoadeljcpaaGreat
open Go Go.Sy Go.Sz Go.In Go.Ob Go.Proofs.YtdkgeoadeljcpaaGreat
set_option linter.unusedVariables false
set_option linter.unusedSimpArgs false
set_option linter.constructorNameAsVariable false
set_option maxRecDepth 100000

theorem ok_beq : SummOk Kn Tryz.prog 46 (sumE [.dp bytesT, .dp bytesT] false Tryz.prog (lk L_rdec) 20 Tryz.f46 (Tryz.f46.body.getD .skip) []) := sumE_ok tok_rdec Tryz.checked.mixed Tryz.func46 (by kernel_rfl) (by rfl) 20 []
noncomputable def L_beq : List (Nat × Summ) := (46, (sumE [.dp bytesT, .dp bytesT] false Tryz.prog (lk L_rdec) 20 Tryz.f46 (Tryz.f46.body.getD .skip) [])) :: L_rdec
theorem tok_beq : TOk Kn Tryz.prog (lk L_beq) := lk_cons ok_beq tok_rdec

theorem ok_letter : SummOk Kn Tryz.prog 102 (sumE [.any, .any] false Tryz.prog (lk L_beq) 20 Tryz.f102 (Tryz.f102.body.getD .skip) []) := sumE_ok tok_beq Tryz.checked.mixed Tryz.func102 (by kernel_rfl) (by rfl) 20 []
noncomputable def L_letter : List (Nat × Summ) := (102, (sumE [.any, .any] false Tryz.prog (lk L_beq) 20 Tryz.f102 (Tryz.f102.body.getD .skip) [])) :: L_beq
theorem tok_letter : TOk Kn Tryz.prog (lk L_letter) := lk_cons ok_letter tok_beq

theorem ok_Name : SummOk Kn Tryz.prog 61 (sumE [.any] false Tryz.prog (lk L_letter) 40 Tryz.f61 (Tryz.f61.body.getD .skip) []) := sumE_ok tok_letter Tryz.checked.mixed Tryz.func61 (by kernel_rfl) (by rfl) 40 []
noncomputable def L_Name : List (Nat × Summ) := (61, (sumE [.any] false Tryz.prog (lk L_letter) 40 Tryz.f61 (Tryz.f61.body.getD .skip) [])) :: L_letter
theorem tok_Name : TOk Kn Tryz.prog (lk L_Name) := lk_cons ok_Name tok_letter

theorem ok_bchk : SummOk Kn Tryz.prog 22 (sumE [.dp typeT] false Tryz.prog (lk L_Name) 40 Tryz.f22 (Tryz.f22.body.getD .skip) []) := sumE_ok tok_Name Tryz.checked.mixed Tryz.func22 (by kernel_rfl) (by rfl) 40 []
noncomputable def L_bchk : List (Nat × Summ) := (22, (sumE [.dp typeT] false Tryz.prog (lk L_Name) 40 Tryz.f22 (Tryz.f22.body.getD .skip) [])) :: L_Name
theorem tok_bchk : TOk Kn Tryz.prog (lk L_bchk) := lk_cons ok_bchk tok_Name

theorem ok_oin : SummOk Kn Tryz.prog 32 (sumE [.any, .any, .any] false Tryz.prog (lk L_bchk) 20 Tryz.f32 (Tryz.f32.body.getD .skip) []) := sumE_ok tok_bchk Tryz.checked.mixed Tryz.func32 (by kernel_rfl) (by rfl) 20 []
noncomputable def L_oin : List (Nat × Summ) := (32, (sumE [.any, .any, .any] false Tryz.prog (lk L_bchk) 20 Tryz.f32 (Tryz.f32.body.getD .skip) [])) :: L_bchk
theorem tok_oin : TOk Kn Tryz.prog (lk L_oin) := lk_cons ok_oin tok_bchk

theorem ok_bare : SummOk Kn Tryz.prog 34 (sumE [.any] false Tryz.prog (lk L_oin) 20 Tryz.f34 (Tryz.f34.body.getD .skip) []) := sumE_ok tok_oin Tryz.checked.mixed Tryz.func34 (by kernel_rfl) (by rfl) 20 []
noncomputable def L_bare : List (Nat × Summ) := (34, (sumE [.any] false Tryz.prog (lk L_oin) 20 Tryz.f34 (Tryz.f34.body.getD .skip) [])) :: L_oin
theorem tok_bare : TOk Kn Tryz.prog (lk L_bare) := lk_cons ok_bare tok_oin

theorem ok_loads : SummOk Kn Tryz.prog 62 (sumE [.dp insT, .any] false Tryz.prog (lk L_bare) 40 Tryz.f62 (Tryz.f62.body.getD .skip) []) := sumE_ok tok_bare Tryz.checked.mixed Tryz.func62 (by kernel_rfl) (by rfl) 40 []
noncomputable def L_loads : List (Nat × Summ) := (62, (sumE [.dp insT, .any] false Tryz.prog (lk L_bare) 40 Tryz.f62 (Tryz.f62.body.getD .skip) [])) :: L_bare
theorem tok_loads : TOk Kn Tryz.prog (lk L_loads) := lk_cons ok_loads tok_bare

theorem ok_programs : SummOk Kn Tryz.prog 23 (sumE [.any] false Tryz.prog (lk L_loads) 40 Tryz.f23 (Tryz.f23.body.getD .skip) []) := sumE_ok tok_loads Tryz.checked.mixed Tryz.func23 (by kernel_rfl) (by rfl) 40 []
noncomputable def L_programs : List (Nat × Summ) := (23, (sumE [.any] false Tryz.prog (lk L_loads) 40 Tryz.f23 (Tryz.f23.body.getD .skip) [])) :: L_loads
theorem tok_programs : TOk Kn Tryz.prog (lk L_programs) := lk_cons ok_programs tok_loads

theorem ok_ochk : SummOk Kn Tryz.prog 11 (sumE [.any] false Tryz.prog (lk L_programs) 40 Tryz.f11 (Tryz.f11.body.getD .skip) []) := sumE_ok tok_programs Tryz.checked.mixed Tryz.func11 (by kernel_rfl) (by rfl) 40 []
noncomputable def L_ochk : List (Nat × Summ) := (11, (sumE [.any] false Tryz.prog (lk L_programs) 40 Tryz.f11 (Tryz.f11.body.getD .skip) [])) :: L_programs
theorem tok_ochk : TOk Kn Tryz.prog (lk L_ochk) := lk_cons ok_ochk tok_programs

theorem ok_two : SummOk Kn Tryz.prog 38 (sumE [.any] false Tryz.prog (lk L_ochk) 20 Tryz.f38 (Tryz.f38.body.getD .skip) []) := sumE_ok tok_ochk Tryz.checked.mixed Tryz.func38 (by kernel_rfl) (by rfl) 20 []
noncomputable def L_two : List (Nat × Summ) := (38, (sumE [.any] false Tryz.prog (lk L_ochk) 20 Tryz.f38 (Tryz.f38.body.getD .skip) [])) :: L_ochk
theorem tok_two : TOk Kn Tryz.prog (lk L_two) := lk_cons ok_two tok_ochk

theorem ok_num : SummOk Kn Tryz.prog 75 (sumE [.any] false Tryz.prog (lk L_two) 20 Tryz.f75 (Tryz.f75.body.getD .skip) []) := sumE_ok tok_two Tryz.checked.mixed Tryz.func75 (by kernel_rfl) (by rfl) 20 []
noncomputable def L_num : List (Nat × Summ) := (75, (sumE [.any] false Tryz.prog (lk L_two) 20 Tryz.f75 (Tryz.f75.body.getD .skip) [])) :: L_two
theorem tok_num : TOk Kn Tryz.prog (lk L_num) := lk_cons ok_num tok_two

theorem ok_bname : SummOk Kn Tryz.prog 109 (sumE [.any] false Tryz.prog (lk L_num) 20 Tryz.f109 (Tryz.f109.body.getD .skip) []) := sumE_ok tok_num Tryz.checked.mixed Tryz.func109 (by kernel_rfl) (by rfl) 20 []
noncomputable def L_bname : List (Nat × Summ) := (109, (sumE [.any] false Tryz.prog (lk L_num) 20 Tryz.f109 (Tryz.f109.body.getD .skip) [])) :: L_num
theorem tok_bname : TOk Kn Tryz.prog (lk L_bname) := lk_cons ok_bname tok_num

theorem ok_benc : SummOk Kn Tryz.prog 37 (sumE [.dp typeT] false Tryz.prog (lk L_bname) 40 Tryz.f37 (Tryz.f37.body.getD .skip) [(0, bytesT)]) := sumE_ok tok_bname Tryz.checked.mixed Tryz.func37 (by kernel_rfl) (by rfl) 40 [(0, bytesT)]
noncomputable def L_benc : List (Nat × Summ) := (37, (sumE [.dp typeT] false Tryz.prog (lk L_bname) 40 Tryz.f37 (Tryz.f37.body.getD .skip) [(0, bytesT)])) :: L_bname
theorem tok_benc : TOk Kn Tryz.prog (lk L_benc) := lk_cons ok_benc tok_bname

theorem ok_oenc : SummOk Kn Tryz.prog 15 (sumE [.any] false Tryz.prog (lk L_benc) 40 Tryz.f15 (Tryz.f15.body.getD .skip) [(0, bytesT)]) := sumE_ok tok_benc Tryz.checked.mixed Tryz.func15 (by kernel_rfl) (by rfl) 40 [(0, bytesT)]
noncomputable def L_oenc : List (Nat × Summ) := (15, (sumE [.any] false Tryz.prog (lk L_benc) 40 Tryz.f15 (Tryz.f15.body.getD .skip) [(0, bytesT)])) :: L_benc
theorem tok_oenc : TOk Kn Tryz.prog (lk L_oenc) := lk_cons ok_oenc tok_benc

theorem ok_btake : SummOk Kn Tryz.prog 124 (sumE [.own 3, .any] false Tryz.prog (lk L_oenc) 20 Tryz.f124 (Tryz.f124.body.getD .skip) []) := sumE_ok tok_oenc Tryz.checked.mixed Tryz.func124 (by kernel_rfl) (by rfl) 20 []
noncomputable def L_btake : List (Nat × Summ) := (124, (sumE [.own 3, .any] false Tryz.prog (lk L_oenc) 20 Tryz.f124 (Tryz.f124.body.getD .skip) [])) :: L_oenc
theorem tok_btake : TOk Kn Tryz.prog (lk L_btake) := lk_cons ok_btake tok_oenc

theorem ok_bbyte : SummOk Kn Tryz.prog 125 (sumE [.own 3] false Tryz.prog (lk L_btake) 20 Tryz.f125 (Tryz.f125.body.getD .skip) []) := sumE_ok tok_btake Tryz.checked.mixed Tryz.func125 (by kernel_rfl) (by rfl) 20 []
noncomputable def L_bbyte : List (Nat × Summ) := (125, (sumE [.own 3] false Tryz.prog (lk L_btake) 20 Tryz.f125 (Tryz.f125.body.getD .skip) [])) :: L_btake
theorem tok_bbyte : TOk Kn Tryz.prog (lk L_bbyte) := lk_cons ok_bbyte tok_btake

theorem ok_bnumb : SummOk Kn Tryz.prog 110 (sumE [.own 3, .any] false Tryz.prog (lk L_bbyte) 20 Tryz.f110 (Tryz.f110.body.getD .skip) []) := sumE_ok tok_bbyte Tryz.checked.mixed Tryz.func110 (by kernel_rfl) (by rfl) 20 []
noncomputable def L_bnumb : List (Nat × Summ) := (110, (sumE [.own 3, .any] false Tryz.prog (lk L_bbyte) 20 Tryz.f110 (Tryz.f110.body.getD .skip) [])) :: L_bbyte
theorem tok_bnumb : TOk Kn Tryz.prog (lk L_bnumb) := lk_cons ok_bnumb tok_bbyte

theorem ok_bdec : SummOk Kn Tryz.prog 81 (sumE [.dp bytesT] false Tryz.prog (lk L_bnumb) 40 Tryz.f81 (Tryz.f81.body.getD .skip) [(0, typeT)]) := sumE_ok tok_bnumb Tryz.checked.mixed Tryz.func81 (by kernel_rfl) (by rfl) 40 [(0, typeT)]
noncomputable def L_bdec : List (Nat × Summ) := (81, (sumE [.dp bytesT] false Tryz.prog (lk L_bnumb) 40 Tryz.f81 (Tryz.f81.body.getD .skip) [(0, typeT)])) :: L_bnumb
theorem tok_bdec : TOk Kn Tryz.prog (lk L_bdec) := lk_cons ok_bdec tok_bnumb

theorem ok_otake : SummOk Kn Tryz.prog 80 (sumE [.own 5, .any] false Tryz.prog (lk L_bdec) 20 Tryz.f80 (Tryz.f80.body.getD .skip) []) := sumE_ok tok_bdec Tryz.checked.mixed Tryz.func80 (by kernel_rfl) (by rfl) 20 []
noncomputable def L_otake : List (Nat × Summ) := (80, (sumE [.own 5, .any] false Tryz.prog (lk L_bdec) 20 Tryz.f80 (Tryz.f80.body.getD .skip) [])) :: L_bdec
theorem tok_otake : TOk Kn Tryz.prog (lk L_otake) := lk_cons ok_otake tok_bdec

theorem ok_oone : SummOk Kn Tryz.prog 82 (sumE [.own 5] false Tryz.prog (lk L_otake) 20 Tryz.f82 (Tryz.f82.body.getD .skip) []) := sumE_ok tok_otake Tryz.checked.mixed Tryz.func82 (by kernel_rfl) (by rfl) 20 []
noncomputable def L_oone : List (Nat × Summ) := (82, (sumE [.own 5] false Tryz.prog (lk L_otake) 20 Tryz.f82 (Tryz.f82.body.getD .skip) [])) :: L_otake
theorem tok_oone : TOk Kn Tryz.prog (lk L_oone) := lk_cons ok_oone tok_otake

theorem ok_otwo : SummOk Kn Tryz.prog 83 (sumE [.own 5] false Tryz.prog (lk L_oone) 20 Tryz.f83 (Tryz.f83.body.getD .skip) []) := sumE_ok tok_oone Tryz.checked.mixed Tryz.func83 (by kernel_rfl) (by rfl) 20 []
noncomputable def L_otwo : List (Nat × Summ) := (83, (sumE [.own 5] false Tryz.prog (lk L_oone) 20 Tryz.f83 (Tryz.f83.body.getD .skip) [])) :: L_oone
theorem tok_otwo : TOk Kn Tryz.prog (lk L_otwo) := lk_cons ok_otwo tok_oone

theorem ok_obegin : SummOk Kn Tryz.prog 43 (sumE [.own 5] false Tryz.prog (lk L_otwo) 40 Tryz.f43 (Tryz.f43.body.getD .skip) []) := sumE_ok tok_otwo Tryz.checked.mixed Tryz.func43 (by kernel_rfl) (by rfl) 40 []
noncomputable def L_obegin : List (Nat × Summ) := (43, (sumE [.own 5] false Tryz.prog (lk L_otwo) 40 Tryz.f43 (Tryz.f43.body.getD .skip) [])) :: L_otwo
theorem tok_obegin : TOk Kn Tryz.prog (lk L_obegin) := lk_cons ok_obegin tok_otwo

theorem ok_omaps : SummOk Kn Tryz.prog 44 (sumE [.own 5] false Tryz.prog (lk L_obegin) 40 Tryz.f44 (Tryz.f44.body.getD .skip) []) := sumE_ok tok_obegin Tryz.checked.mixed Tryz.func44 (by kernel_rfl) (by rfl) 40 []
noncomputable def L_omaps : List (Nat × Summ) := (44, (sumE [.own 5] false Tryz.prog (lk L_obegin) 40 Tryz.f44 (Tryz.f44.body.getD .skip) [])) :: L_obegin
theorem tok_omaps : TOk Kn Tryz.prog (lk L_omaps) := lk_cons ok_omaps tok_obegin

theorem ok_oprogs : SummOk Kn Tryz.prog 45 (sumE [.own 5] false Tryz.prog (lk L_omaps) 40 Tryz.f45 (Tryz.f45.body.getD .skip) []) := sumE_ok tok_omaps Tryz.checked.mixed Tryz.func45 (by kernel_rfl) (by rfl) 40 []
noncomputable def L_oprogs : List (Nat × Summ) := (45, (sumE [.own 5] false Tryz.prog (lk L_omaps) 40 Tryz.f45 (Tryz.f45.body.getD .skip) [])) :: L_omaps
theorem tok_oprogs : TOk Kn Tryz.prog (lk L_oprogs) := lk_cons ok_oprogs tok_omaps

theorem ok_odec : SummOk Kn Tryz.prog 18 (sumE [.dp bytesT] true Tryz.prog (lk L_oprogs) 40 Tryz.f18 (Tryz.f18.body.getD .skip) []) := sumE_ok tok_oprogs Tryz.checked.mixed Tryz.func18 (by kernel_rfl) (by rfl) 40 []
noncomputable def L_odec : List (Nat × Summ) := (18, (sumE [.dp bytesT] true Tryz.prog (lk L_oprogs) 40 Tryz.f18 (Tryz.f18.body.getD .skip) [])) :: L_oprogs
theorem tok_odec : TOk Kn Tryz.prog (lk L_odec) := lk_cons ok_odec tok_oprogs

theorem ok_same4 : SummOk Kn Tryz.prog 52 (sumE [.dp typeT, .dp typeT] false Tryz.prog (lk L_odec) 40 Tryz.f52 (Tryz.f52.body.getD .skip) []) := sumE_ok tok_odec Tryz.checked.mixed Tryz.func52 (by kernel_rfl) (by rfl) 40 []
noncomputable def L_same4 : List (Nat × Summ) := (52, (sumE [.dp typeT, .dp typeT] false Tryz.prog (lk L_odec) 40 Tryz.f52 (Tryz.f52.body.getD .skip) [])) :: L_odec
theorem tok_same4 : TOk Kn Tryz.prog (lk L_same4) := lk_cons ok_same4 tok_odec

theorem ok_same5 : SummOk Kn Tryz.prog 20 (sumE [.any, .any] false Tryz.prog (lk L_same4) 40 Tryz.f20 (Tryz.f20.body.getD .skip) []) := sumE_ok tok_same4 Tryz.checked.mixed Tryz.func20 (by kernel_rfl) (by rfl) 40 []
noncomputable def L_same5 : List (Nat × Summ) := (20, (sumE [.any, .any] false Tryz.prog (lk L_same4) 40 Tryz.f20 (Tryz.f20.body.getD .skip) [])) :: L_same4
theorem tok_same5 : TOk Kn Tryz.prog (lk L_same5) := lk_cons ok_same5 tok_same4

def ea_kn1 : Unit → denAs [] := fun _ => ()
def eo_kn1 : Unit → denObs [] := fun _ => ()
noncomputable def E_kn1 : Unit → Tree (AV × List Ob) := fun _ => 
Tree.ite (decC ((2 : Nat) ≤ (140737488355328 : Nat))) (Tree.ite (decC ((2 : Nat) ≤ (140737488355328 : Nat))) (Tree.ite (decC ((2 : Nat) ≤ (1000000 : Nat))) (Tree.ite (decC ((4 : Nat) ≤ (8 : Nat))) (Tree.ite (decC ((2 : Nat) ≤ (8 : Nat))) (Tree.ite (decC ((16 : Nat) ≤ (1000000 : Nat))) (Tree.ite (decC ((2 : Nat) ≤ (140737488355328 : Nat))) (Tree.ite (decC ((2 : Nat) ≤ (140737488355328 : Nat))) (Tree.ite (decC ((2 : Nat) ≤ (1000000 : Nat))) (Tree.ret (AV.p (Part.one (Cell.v (Value.bool true))), [])) Tree.fail) Tree.fail) Tree.fail) Tree.fail) Tree.fail) Tree.fail) Tree.fail) Tree.fail) Tree.fail
noncomputable def F_kn1 : denAs [] → denObs [] → Tree (AV × List Ob) := fun x y => match x, y with
  | (), () => .ret (AV.b true, [])
theorem ev_kn1 : ∀ a, (evalFnL Tryz.prog (lk L_same5) 60 noL Tryz.f9 (Tryz.f9.body.getD .skip) [] (encAs [] (ea_kn1 a)) (encOs [] (eo_kn1 a))).run = (E_kn1 a).run := by
  rintro ⟨⟩
  kernel_rfl
theorem fe_kn1 : ∀ a y, (F_kn1 (ea_kn1 a) (eo_kn1 a)).run = some y → (E_kn1 a).run = some y := by
  rintro _ y h
  rw [← h]
  dsimp only [E_kn1]
  exact (goT (decP (by decide))).trans ((goT (decP (by decide))).trans ((goT (decP (by decide))).trans ((goT (decP (by decide))).trans ((goT (decP (by decide))).trans ((goT (decP (by decide))).trans ((goT (decP (by decide))).trans ((goT (decP (by decide))).trans ((goT (decP (by decide))).trans rfl))))))))
theorem ok_kn1 : SummOk Kn Tryz.prog 9 (sumT [] false [] [] F_kn1) := sumT_view tok_same5 Tryz.checked.mixed Tryz.func9 (by kernel_rfl) (by rfl) 60 [] ea_kn1 eo_kn1
  (by rintro ⟨⟩ ⟨⟩; exact ⟨(), rfl, rfl⟩) noL 0 (by rintro ⟨⟩; rfl) (noL_ok _ _ _ _ _ _) E_kn1 ev_kn1 fe_kn1
noncomputable def L_kn1 : List (Nat × Summ) := (9, (sumT [] false [] [] F_kn1)) :: L_same5
theorem tok_kn1 : TOk Kn Tryz.prog (lk L_kn1) := lk_cons ok_kn1 tok_same5

end Go.Proofs.YtdkgeoadeljcpaaGreat
