/-
  The contracts of the functions that the law of ranges reaches (written by our own gen_rg.py).
-/
import Derived.Test.YtoljppjibhnndaaTzS
import Derived.Test.YtoljppjibhnndaaRows
import Derived.Test.YtoljppjibhnndaaShelf
namespace Go.Proofs.Ytoljppjibhnndaa
open Go Go.Sy Go.Sz Go.Tn
set_option linter.unusedVariables false
set_option linter.unusedSimpArgs false
def Kn : Know := Know.none

theorem ev_is : ∀ x : denAs [tS], (evalFnL Try.prog (lk []) 20 noL Try.f27 (Try.f27.body.getD .skip) [] (encAs [tS] x) []).run = some ((fun x => bA (ok ⟨x.1.1, x.1.2.1⟩)) x, []) := by
  rintro ⟨⟨(a : BitVec 64), (b : BitVec 64), _⟩, _⟩
  kernel_rfl
theorem ok_is : SummOk Kn Try.prog 27 (sumF [.any] [tS] (fun x => bA (ok ⟨x.1.1, x.1.2.1⟩))) := sumF_ok (lk_nil Kn Try.prog) Try.checked.mixed Try.func27 (by kernel_rfl) (by rfl) 20 [] ev_is
noncomputable def L_is : List (Nat × Summ) := (27, (sumF [.any] [tS] (fun x => bA (ok ⟨x.1.1, x.1.2.1⟩)))) :: []
theorem tok_is : TOk Kn Try.prog (lk L_is) := lk_cons ok_is (lk_nil Kn Try.prog)

theorem ev_unknown : ∀ x : denAs [], (evalFnL Try.prog (lk L_is) 20 noL Try.f7 (Try.f7.body.getD .skip) [] (encAs [] x) []).run = some ((fun _ => tA unknown) x, []) := by
  rintro ⟨⟩
  kernel_rfl
theorem ok_unknown : SummOk Kn Try.prog 7 (sumF [] [] (fun _ => tA unknown)) := sumF_ok tok_is Try.checked.mixed Try.func7 (by kernel_rfl) (by rfl) 20 [] ev_unknown
noncomputable def L_unknown : List (Nat × Summ) := (7, (sumF [] [] (fun _ => tA unknown))) :: L_is
theorem tok_unknown : TOk Kn Try.prog (lk L_unknown) := lk_cons ok_unknown tok_is

theorem ev_right : ∀ x : denAs [tS], (evalFnL Try.prog (lk L_unknown) 20 noL Try.f21 (Try.f21.body.getD .skip) [] (encAs [tS] x) []).run = some ((fun x => tA (right ⟨x.1.1, x.1.2.1⟩)) x, []) := by
  rintro ⟨⟨(a : BitVec 64), (b : BitVec 64), _⟩, _⟩
  have e : (evalFnL Try.prog (lk L_unknown) 20 noL Try.f21 (Try.f21.body.getD .skip) [] [tA ⟨a, b⟩] []).run = bif !ok ⟨a, b⟩ then some (tA unknown, []) else some (tA ⟨a, b⟩, []) := by kernel_rfl
  refine e.trans ?_
  simp only [right]
  cases ok ⟨a, b⟩ <;> rfl
theorem ok_right : SummOk Kn Try.prog 21 (sumF [.any] [tS] (fun x => tA (right ⟨x.1.1, x.1.2.1⟩))) := sumF_ok tok_unknown Try.checked.mixed Try.func21 (by kernel_rfl) (by rfl) 20 [] ev_right
noncomputable def L_right : List (Nat × Summ) := (21, (sumF [.any] [tS] (fun x => tA (right ⟨x.1.1, x.1.2.1⟩)))) :: L_unknown
theorem tok_right : TOk Kn Try.prog (lk L_right) := lk_cons ok_right tok_unknown

theorem ev_const : ∀ x : denAs [uS], (evalFnL Try.prog (lk L_right) 20 noL Try.f18 (Try.f18.body.getD .skip) [] (encAs [uS] x) []).run = some ((fun x => tA (const x.1)) x, []) := by
  rintro ⟨(a : BitVec 64), _⟩
  kernel_rfl
theorem ok_const : SummOk Kn Try.prog 18 (sumF [.any] [uS] (fun x => tA (const x.1))) := sumF_ok tok_right Try.checked.mixed Try.func18 (by kernel_rfl) (by rfl) 20 [] ev_const
noncomputable def L_const : List (Nat × Summ) := (18, (sumF [.any] [uS] (fun x => tA (const x.1)))) :: L_right
theorem tok_const : TOk Kn Try.prog (lk L_const) := lk_cons ok_const tok_right

theorem ok_len64 : SummOk Kn Try.prog 20 (sumF [.any] [uS] (fun x => iA (len64 x.1))) := sumF_same ⟨Try.f20, Try.func20, (by kernel_rfl), (by kernel_rfl)⟩ (fun x F' r w us _ _ ha => by
  obtain ⟨(x : BitVec 64), _⟩ := x
  match us, ha with
  | [u], ha =>
    have h1 : u = .int .u64 (x.toNat : Int) := ha.1
    subst h1
    refine ⟨.int .i64 (len64 x), rfl, trivial, ?_⟩
    have := Try.bits_Len64 (x.toNat : Int) w (by omega) (by have := x.isLt; omega)
    rw [Int.toNat_natCast] at this
    exact this)
noncomputable def L_len64 : List (Nat × Summ) := (20, (sumF [.any] [uS] (fun x => iA (len64 x.1)))) :: L_const
theorem tok_len64 : TOk Kn Try.prog (lk L_len64) := lk_cons ok_len64 tok_const

theorem ev_range : ∀ x : denAs [uS, uS], (evalFnL Try.prog (lk L_len64) 20 noL Try.f6 (Try.f6.body.getD .skip) [] (encAs [uS, uS] x) []).run = some ((fun x => tA (range x.1 x.2.1)) x, []) := by
  rintro ⟨(a : BitVec 64), (b : BitVec 64), _⟩
  have e : (evalFnL Try.prog (lk L_len64) 20 noL Try.f6 (Try.f6.body.getD .skip) [] [uA a, uA b] []).run = bif BitVec.ult b a then some (tA unknown, []) else bif decide (len64 (a ^^^ b) < 0) then none else some (tA (of a ((BitVec.ofInt 64 1 <<< (len64 (a ^^^ b)).toNat) - BitVec.ofInt 64 1)), []) := by kernel_rfl
  refine e.trans ?_
  have h1 : 0 ≤ len64 (a ^^^ b) := Int.natCast_nonneg _
  have h0 : decide (len64 (a ^^^ b) < 0) = false := decide_eq_false (by omega)
  rw [h0]
  simp only [range]
  cases BitVec.ult b a <;> rfl
theorem ok_range : SummOk Kn Try.prog 6 (sumF [.any, .any] [uS, uS] (fun x => tA (range x.1 x.2.1))) := sumF_ok tok_len64 Try.checked.mixed Try.func6 (by kernel_rfl) (by rfl) 20 [] ev_range
noncomputable def L_range : List (Nat × Summ) := (6, (sumF [.any, .any] [uS, uS] (fun x => tA (range x.1 x.2.1)))) :: L_len64
theorem tok_range : TOk Kn Try.prog (lk L_range) := lk_cons ok_range tok_len64

theorem ev_join : ∀ x : denAs [tS, tS], (evalFnL Try.prog (lk L_range) 20 noL Try.f19 (Try.f19.body.getD .skip) [] (encAs [tS, tS] x) []).run = some ((fun x => tA (join ⟨x.1.1, x.1.2.1⟩ ⟨x.2.1.1, x.2.1.2.1⟩)) x, []) := by
  rintro ⟨⟨(a : BitVec 64), (b : BitVec 64), _⟩, ⟨(c : BitVec 64), (d : BitVec 64), _⟩, _⟩
  have e : (evalFnL Try.prog (lk L_range) 20 noL Try.f19 (Try.f19.body.getD .skip) [] [tA ⟨a, b⟩, tA ⟨c, d⟩] []).run = bif eqT (right ⟨a, b⟩) (right ⟨c, d⟩) then some (tA (right ⟨a, b⟩), []) else some (tA (of (right ⟨a, b⟩).v ((right ⟨a, b⟩).m ||| (right ⟨c, d⟩).m ||| ((right ⟨a, b⟩).v ^^^ (right ⟨c, d⟩).v))), []) := by kernel_rfl
  refine e.trans ?_
  simp only [join, join']
  cases eqT (right ⟨a, b⟩) (right ⟨c, d⟩) <;> rfl
theorem ok_join : SummOk Kn Try.prog 19 (sumF [.any, .any] [tS, tS] (fun x => tA (join ⟨x.1.1, x.1.2.1⟩ ⟨x.2.1.1, x.2.1.2.1⟩))) := sumF_ok tok_range Try.checked.mixed Try.func19 (by kernel_rfl) (by rfl) 20 [] ev_join
noncomputable def L_join : List (Nat × Summ) := (19, (sumF [.any, .any] [tS, tS] (fun x => tA (join ⟨x.1.1, x.1.2.1⟩ ⟨x.2.1.1, x.2.1.2.1⟩)))) :: L_range
theorem tok_join : TOk Kn Try.prog (lk L_join) := lk_cons ok_join tok_range

theorem ev_sub : ∀ x : denAs [tS, tS], (evalFnL Try.prog (lk L_join) 20 noL Try.f11 (Try.f11.body.getD .skip) [] (encAs [tS, tS] x) []).run = some ((fun x => tA (sub ⟨x.1.1, x.1.2.1⟩ ⟨x.2.1.1, x.2.1.2.1⟩)) x, []) := by
  rintro ⟨⟨(a : BitVec 64), (b : BitVec 64), _⟩, ⟨(c : BitVec 64), (d : BitVec 64), _⟩, _⟩
  kernel_rfl
theorem ok_sub : SummOk Kn Try.prog 11 (sumF [.any, .any] [tS, tS] (fun x => tA (sub ⟨x.1.1, x.1.2.1⟩ ⟨x.2.1.1, x.2.1.2.1⟩))) := sumF_ok tok_join Try.checked.mixed Try.func11 (by kernel_rfl) (by rfl) 20 [] ev_sub
noncomputable def L_sub : List (Nat × Summ) := (11, (sumF [.any, .any] [tS, tS] (fun x => tA (sub ⟨x.1.1, x.1.2.1⟩ ⟨x.2.1.1, x.2.1.2.1⟩)))) :: L_join
theorem tok_sub : TOk Kn Try.prog (lk L_sub) := lk_cons ok_sub tok_join

theorem ev_known : ∀ x : denAs [], (evalFnL Try.prog (lk L_sub) 20 noL Try.f5 (Try.f5.body.getD .skip) [] (encAs [] x) []).run = some ((fun _ => bA true) x, []) := by
  rintro ⟨⟩
  kernel_rfl
theorem ok_known : SummOk Kn Try.prog 5 (sumF [] [] (fun _ => bA true)) := sumF_ok tok_sub Try.checked.mixed Try.func5 (by kernel_rfl) (by rfl) 20 [] ev_known
noncomputable def L_known : List (Nat × Summ) := (5, (sumF [] [] (fun _ => bA true))) :: L_sub
theorem tok_known : TOk Kn Try.prog (lk L_known) := lk_cons ok_known tok_sub

end Go.Proofs.Ytoljppjibhnndaa
