/-
  Lines of text (written by our own gen_fln.py).
-/
import Derived.Test.YtdbnbijillmlcaaFlA
import Derived.Test.YtdbnbijillmlcaaFlV
import Derived.Test.YtdbnbijillmlcaaObT
namespace Go.Proofs.Ytdbnbijillmlcaa
open Go Go.Sy Go.Sz Go.In Go.Fl Go.Proofs.Ytdbnbijillmlcaa
set_option linter.unusedVariables false
set_option linter.unusedSimpArgs false
set_option linter.constructorNameAsVariable false
set_option maxRecDepth 100000

theorem ok_t_plain : SummOk Kn Try.prog 81 (sumE [.any] false Try.prog (lk L_Rch) 60 Try.f81 (Try.f81.body.getD .skip) []) := sumE_ok tok_Rch Try.checked.mixed Try.func81 (by kernel_rfl) (by rfl) 60 []
noncomputable def L_t_plain : List (Nat × Summ) := (81, (sumE [.any] false Try.prog (lk L_Rch) 60 Try.f81 (Try.f81.body.getD .skip) [])) :: L_Rch
theorem tok_t_plain : TOk Kn Try.prog (lk L_t_plain) := lk_cons ok_t_plain tok_Rch

theorem ok_t_Plain : SummOk Kn Try.prog 42 (sumE [.any] false Try.prog (lk L_t_plain) 60 Try.f42 (Try.f42.body.getD .skip) []) := sumE_ok tok_t_plain Try.checked.mixed Try.func42 (by kernel_rfl) (by rfl) 60 []
noncomputable def L_t_Plain : List (Nat × Summ) := (42, (sumE [.any] false Try.prog (lk L_t_plain) 60 Try.f42 (Try.f42.body.getD .skip) [])) :: L_t_plain
theorem tok_t_Plain : TOk Kn Try.prog (lk L_t_Plain) := lk_cons ok_t_Plain tok_t_plain

theorem ok_t_Number : SummOk Kn Try.prog 31 (sumE [.any] false Try.prog (lk L_t_Plain) 60 Try.f31 (Try.f31.body.getD .skip) []) := sumE_ok tok_t_Plain Try.checked.mixed Try.func31 (by kernel_rfl) (by rfl) 60 []
noncomputable def L_t_Number : List (Nat × Summ) := (31, (sumE [.any] false Try.prog (lk L_t_Plain) 60 Try.f31 (Try.f31.body.getD .skip) [])) :: L_t_Plain
theorem tok_t_Number : TOk Kn Try.prog (lk L_t_Number) := lk_cons ok_t_Number tok_t_Plain

theorem ok_t_num : SummOk Kn Try.prog 79 (sumE [.any, .any, .any] false Try.prog (lk L_t_Number) 60 Try.f79 (Try.f79.body.getD .skip) []) := sumE_ok tok_t_Number Try.checked.mixed Try.func79 (by kernel_rfl) (by rfl) 60 []
noncomputable def L_t_num : List (Nat × Summ) := (79, (sumE [.any, .any, .any] false Try.prog (lk L_t_Number) 60 Try.f79 (Try.f79.body.getD .skip) [])) :: L_t_Number
theorem tok_t_num : TOk Kn Try.prog (lk L_t_num) := lk_cons ok_t_num tok_t_Number

theorem ok_t_off : SummOk Kn Try.prog 71 (sumE [.any, .any] false Try.prog (lk L_t_num) 60 Try.f71 (Try.f71.body.getD .skip) []) := sumE_ok tok_t_num Try.checked.mixed Try.func71 (by kernel_rfl) (by rfl) 60 []
noncomputable def L_t_off : List (Nat × Summ) := (71, (sumE [.any, .any] false Try.prog (lk L_t_num) 60 Try.f71 (Try.f71.body.getD .skip) [])) :: L_t_num
theorem tok_t_off : TOk Kn Try.prog (lk L_t_off) := lk_cons ok_t_off tok_t_num

theorem ok_t_imm : SummOk Kn Try.prog 72 (sumE [.any] false Try.prog (lk L_t_off) 60 Try.f72 (Try.f72.body.getD .skip) []) := sumE_ok tok_t_off Try.checked.mixed Try.func72 (by kernel_rfl) (by rfl) 60 []
noncomputable def L_t_imm : List (Nat × Summ) := (72, (sumE [.any] false Try.prog (lk L_t_off) 60 Try.f72 (Try.f72.body.getD .skip) [])) :: L_t_off
theorem tok_t_imm : TOk Kn Try.prog (lk L_t_imm) := lk_cons ok_t_imm tok_t_off

theorem ok_t_reg : SummOk Kn Try.prog 75 (sumE [.any, .any] false Try.prog (lk L_t_imm) 60 Try.f75 (Try.f75.body.getD .skip) []) := sumE_ok tok_t_imm Try.checked.mixed Try.func75 (by kernel_rfl) (by rfl) 60 []
noncomputable def L_t_reg : List (Nat × Summ) := (75, (sumE [.any, .any] false Try.prog (lk L_t_imm) 60 Try.f75 (Try.f75.body.getD .skip) [])) :: L_t_imm
theorem tok_t_reg : TOk Kn Try.prog (lk L_t_reg) := lk_cons ok_t_reg tok_t_imm

theorem ok_t_place : SummOk Kn Try.prog 74 (sumE [.any, .any, .any] false Try.prog (lk L_t_reg) 60 Try.f74 (Try.f74.body.getD .skip) []) := sumE_ok tok_t_reg Try.checked.mixed Try.func74 (by kernel_rfl) (by rfl) 60 []
noncomputable def L_t_place : List (Nat × Summ) := (74, (sumE [.any, .any, .any] false Try.prog (lk L_t_reg) 60 Try.f74 (Try.f74.body.getD .skip) [])) :: L_t_reg
theorem tok_t_place : TOk Kn Try.prog (lk L_t_place) := lk_cons ok_t_place tok_t_reg

theorem ok_t_csg : SummOk Kn Try.prog 80 (sumE [.any] false Try.prog (lk L_t_place) 60 Try.f80 (Try.f80.body.getD .skip) []) := sumE_ok tok_t_place Try.checked.mixed Try.func80 (by kernel_rfl) (by rfl) 60 []
noncomputable def L_t_csg : List (Nat × Summ) := (80, (sumE [.any] false Try.prog (lk L_t_place) 60 Try.f80 (Try.f80.body.getD .skip) [])) :: L_t_place
theorem tok_t_csg : TOk Kn Try.prog (lk L_t_csg) := lk_cons ok_t_csg tok_t_place

theorem ok_t_asg : SummOk Kn Try.prog 83 (sumE [.any] false Try.prog (lk L_t_csg) 60 Try.f83 (Try.f83.body.getD .skip) []) := sumE_ok tok_t_csg Try.checked.mixed Try.func83 (by kernel_rfl) (by rfl) 60 []
noncomputable def L_t_asg : List (Nat × Summ) := (83, (sumE [.any] false Try.prog (lk L_t_csg) 60 Try.f83 (Try.f83.body.getD .skip) [])) :: L_t_csg
theorem tok_t_asg : TOk Kn Try.prog (lk L_t_asg) := lk_cons ok_t_asg tok_t_csg

theorem ok_t_words : SummOk Kn Try.prog 70 (sumE [.any] false Try.prog (lk L_t_asg) 60 Try.f70 (Try.f70.body.getD .skip) []) := sumE_ok tok_t_asg Try.checked.mixed Try.func70 (by kernel_rfl) (by rfl) 60 []
noncomputable def L_t_words : List (Nat × Summ) := (70, (sumE [.any] false Try.prog (lk L_t_asg) 60 Try.f70 (Try.f70.body.getD .skip) [])) :: L_t_asg
theorem tok_t_words : TOk Kn Try.prog (lk L_t_words) := lk_cons ok_t_words tok_t_asg

theorem ok_t_cmp : SummOk Kn Try.prog 73 (sumE [.any] false Try.prog (lk L_t_words) 60 Try.f73 (Try.f73.body.getD .skip) []) := sumE_ok tok_t_words Try.checked.mixed Try.func73 (by kernel_rfl) (by rfl) 60 []
noncomputable def L_t_cmp : List (Nat × Summ) := (73, (sumE [.any] false Try.prog (lk L_t_words) 60 Try.f73 (Try.f73.body.getD .skip) [])) :: L_t_words
theorem tok_t_cmp : TOk Kn Try.prog (lk L_t_cmp) := lk_cons ok_t_cmp tok_t_words

theorem ok_t_spec : SummOk Kn Try.prog 82 (sumE [.any, .any, .any] false Try.prog (lk L_t_cmp) 60 Try.f82 (Try.f82.body.getD .skip) []) := sumE_ok tok_t_cmp Try.checked.mixed Try.func82 (by kernel_rfl) (by rfl) 60 []
noncomputable def L_t_spec : List (Nat × Summ) := (82, (sumE [.any, .any, .any] false Try.prog (lk L_t_cmp) 60 Try.f82 (Try.f82.body.getD .skip) [])) :: L_t_cmp
theorem tok_t_spec : TOk Kn Try.prog (lk L_t_spec) := lk_cons ok_t_spec tok_t_cmp

theorem ok_t_assign : SummOk Kn Try.prog 76 (sumE [.any] false Try.prog (lk L_t_spec) 60 Try.f76 (Try.f76.body.getD .skip) []) := sumE_ok tok_t_spec Try.checked.mixed Try.func76 (by kernel_rfl) (by rfl) 60 []
noncomputable def L_t_assign : List (Nat × Summ) := (76, (sumE [.any] false Try.prog (lk L_t_spec) 60 Try.f76 (Try.f76.body.getD .skip) [])) :: L_t_spec
theorem tok_t_assign : TOk Kn Try.prog (lk L_t_assign) := lk_cons ok_t_assign tok_t_spec

def eqL : List UInt8 → List UInt8 → Bool
  | [], [] => true
  | x :: a, y :: b => Nat.beq x.toNat y.toNat && eqL a b
  | _, _ => false
theorem eqL_eq : ∀ {a b : List UInt8}, eqL a b = true → a = b
  | [], [], _ => rfl
  | x :: a, y :: b, h => by
    simp only [eqL, Bool.and_eq_true] at h
    rw [eqL_eq h.2, UInt8.toNat_inj.1 (Nat.eq_of_beq_eq_true h.1)]
  | [], _ :: _, h => by cases h
  | _ :: _, [], h => by cases h
def eqS (a b : ByteArray) : Bool := eqL a.data.toList b.data.toList
theorem eqS_eq {a b : ByteArray} (h : eqS a b = true) : a = b := by
  have h1 := eqL_eq h
  obtain ⟨⟨x⟩⟩ := a
  obtain ⟨⟨y⟩⟩ := b
  have h2 : x = y := h1
  rw [h2]
def callB : ByteArray := ⟨#[99, 97, 108, 108, 32, 43, 49]⟩
def exitB : ByteArray := ⟨#[101, 120, 105, 116]⟩
def moveB : ByteArray := ⟨#[114, 48, 32, 61, 32, 48]⟩
def callC : ByteArray := ⟨#[32, 99, 97, 108, 108, 32, 43, 49]⟩
def exitC : ByteArray := ⟨#[32, 101, 120, 105, 116]⟩
def moveC : ByteArray := ⟨#[32, 114, 48, 32, 61, 32, 48]⟩
def sOne (l : Slots) : AV × List Ob := (.t [.one (.h 0), .one (.v (.bool true))], [.row insT l])
def sStr (b : ByteArray) : AV × List Ob := (AV.c (.v (.string b)), [])
theorem three {P : Tree (AV × List Ob)} {b : Bool} {x : AV × List Ob} {y : AV × List Ob} (h : (Tree.ite b (.ret x) P).run = some y) : (b = true ∧ x = y) ∨ (b = false ∧ P.run = some y) := by
  cases b with
  | true => exact .inl ⟨rfl, Option.some.inj h⟩
  | false => exact .inr ⟨rfl, h⟩
def ea_onew : ByteArray → denAs [.c .s] := fun s => (s, ())
def eo_onew : ByteArray → denObs [] := fun s => ()
noncomputable def E_onew : ByteArray → Tree (AV × List Ob) := fun a => (evalFnL Try.prog (lk L_t_assign) 60 noL Try.f60 (Try.f60.body.getD .skip) [(0, insT)] (encAs [.c .s] (ea_onew a)) (encOs [] (eo_onew a)))
theorem ev_onew : ∀ a, (evalFnL Try.prog (lk L_t_assign) 60 noL Try.f60 (Try.f60.body.getD .skip) [(0, insT)] (encAs [.c .s] (ea_onew a)) (encOs [] (eo_onew a))).run = (E_onew a).run := by
  intro a; rfl
theorem onew_callB : (E_onew callB).run = some (sOne [callOn 1]) := by kernel_rfl
theorem onew_exitB : (E_onew exitB).run = some (sOne [Fl.exitI]) := by kernel_rfl
theorem onew_moveB : (E_onew moveB).run = some (sOne [moveI]) := by kernel_rfl
attribute [local irreducible] E_onew
noncomputable def F_onew : denAs [.c .s] → denObs [] → Tree (AV × List Ob) := fun x y => match x, y with
  | (s, ()), () => .ite (eqS s callB) (.ret (sOne [callOn 1])) (.ite (eqS s exitB) (.ret (sOne [Fl.exitI])) (.ite (eqS s moveB) (.ret (sOne [moveI])) (.fail)))
theorem fe_onew : ∀ a y, (F_onew (ea_onew a) (eo_onew a)).run = some y → (E_onew a).run = some y := by
  intro s y h
  rcases three h with ⟨h1, h2⟩ | ⟨_, h⟩
  · rw [eqS_eq h1, ← h2]; exact onew_callB
  rcases three h with ⟨h1, h2⟩ | ⟨_, h⟩
  · rw [eqS_eq h1, ← h2]; exact onew_exitB
  rcases three h with ⟨h1, h2⟩ | ⟨_, h⟩
  · rw [eqS_eq h1, ← h2]; exact onew_moveB
  cases h
theorem ok_onew : SummOk Kn Try.prog 60 (sumT [.any] false [.c .s] [] F_onew) := sumT_view tok_t_assign Try.checked.mixed Try.func60 (by kernel_rfl) (by rfl) 60 [(0, insT)] ea_onew eo_onew
  (by rintro ⟨s, ⟨⟩⟩ ⟨⟩; exact ⟨s, rfl, rfl⟩) noL 0 (by rintro ⟨⟩; rfl) (noL_ok _ _ _ _ _ _) E_onew ev_onew fe_onew
noncomputable def L_onew : List (Nat × Summ) := (60, (sumT [.any] false [.c .s] [] F_onew)) :: L_t_assign
theorem tok_onew : TOk Kn Try.prog (lk L_onew) := lk_cons ok_onew tok_t_assign

def ea_trimw : ByteArray → denAs [.c .s] := fun s => (s, ())
def eo_trimw : ByteArray → denObs [] := fun s => ()
noncomputable def E_trimw : ByteArray → Tree (AV × List Ob) := fun a => (evalFnL Try.prog (lk L_onew) 60 noL Try.f59 (Try.f59.body.getD .skip) [] (encAs [.c .s] (ea_trimw a)) (encOs [] (eo_trimw a)))
theorem ev_trimw : ∀ a, (evalFnL Try.prog (lk L_onew) 60 noL Try.f59 (Try.f59.body.getD .skip) [] (encAs [.c .s] (ea_trimw a)) (encOs [] (eo_trimw a))).run = (E_trimw a).run := by
  intro a; rfl
theorem trimw_callB : (E_trimw callB).run = some (sStr callB) := by kernel_rfl
theorem trimw_callC : (E_trimw callC).run = some (sStr callB) := by kernel_rfl
theorem trimw_exitC : (E_trimw exitC).run = some (sStr exitB) := by kernel_rfl
theorem trimw_moveB : (E_trimw moveB).run = some (sStr moveB) := by kernel_rfl
theorem trimw_moveC : (E_trimw moveC).run = some (sStr moveB) := by kernel_rfl
attribute [local irreducible] E_trimw
noncomputable def F_trimw : denAs [.c .s] → denObs [] → Tree (AV × List Ob) := fun x y => match x, y with
  | (s, ()), () => .ite (eqS s callB) (.ret (sStr callB)) (.ite (eqS s callC) (.ret (sStr callB)) (.ite (eqS s exitC) (.ret (sStr exitB)) (.ite (eqS s moveB) (.ret (sStr moveB)) (.ite (eqS s moveC) (.ret (sStr moveB)) (.fail)))))
theorem fe_trimw : ∀ a y, (F_trimw (ea_trimw a) (eo_trimw a)).run = some y → (E_trimw a).run = some y := by
  intro s y h
  rcases three h with ⟨h1, h2⟩ | ⟨_, h⟩
  · rw [eqS_eq h1, ← h2]; exact trimw_callB
  rcases three h with ⟨h1, h2⟩ | ⟨_, h⟩
  · rw [eqS_eq h1, ← h2]; exact trimw_callC
  rcases three h with ⟨h1, h2⟩ | ⟨_, h⟩
  · rw [eqS_eq h1, ← h2]; exact trimw_exitC
  rcases three h with ⟨h1, h2⟩ | ⟨_, h⟩
  · rw [eqS_eq h1, ← h2]; exact trimw_moveB
  rcases three h with ⟨h1, h2⟩ | ⟨_, h⟩
  · rw [eqS_eq h1, ← h2]; exact trimw_moveC
  cases h
theorem ok_trimw : SummOk Kn Try.prog 59 (sumT [.any] false [.c .s] [] F_trimw) := sumT_view tok_onew Try.checked.mixed Try.func59 (by kernel_rfl) (by rfl) 60 [] ea_trimw eo_trimw
  (by rintro ⟨s, ⟨⟩⟩ ⟨⟩; exact ⟨s, rfl, rfl⟩) noL 0 (by rintro ⟨⟩; rfl) (noL_ok _ _ _ _ _ _) E_trimw ev_trimw fe_trimw
noncomputable def L_trimw : List (Nat × Summ) := (59, (sumT [.any] false [.c .s] [] F_trimw)) :: L_onew
theorem tok_trimw : TOk Kn Try.prog (lk L_trimw) := lk_cons ok_trimw tok_onew

end Go.Proofs.Ytdbnbijillmlcaa
