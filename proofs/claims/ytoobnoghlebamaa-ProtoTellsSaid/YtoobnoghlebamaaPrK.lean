/-
  The contracts of package proto (written by our own gen_pr.py).
-/
import Derived.Test.YtoobnoghlebamaaPrS
import Derived.Test.YtoobnoghlebamaaRows
namespace Go.Proofs.Ytoobnoghlebamaa
open Go Go.Sy Go.Sz Go.Pr
set_option linter.unusedVariables false
set_option linter.unusedSimpArgs false
set_option maxRecDepth 100000
def Kn : Know := Know.none

theorem ev_of : ∀ x : denAs [.c .s, iS, iS, .c (.d ints)], (evalFnL Try.prog (lk []) 20 noL Try.f12 (Try.f12.body.getD .skip) [] (encAs [.c .s, iS, iS, .c (.d ints)] x) []).run = some ((fun x => .p (.many (prC x.1 (at5 x.2.2.2.1 0) (at5 x.2.2.2.1 1) (at5 x.2.2.2.1 2) (at5 x.2.2.2.1 3) (at5 x.2.2.2.1 4) x.2.1 x.2.2.1 false false))) x, []) := by
  rintro ⟨(s : ByteArray), (r : Int), (m : Int), (l : Ints), _⟩
  kernel_rfl
theorem ok_of : SummOk Kn Try.prog 12 (sumF [.any, .any, .any, .dp ints] [.c .s, iS, iS, .c (.d ints)] (fun x => .p (.many (prC x.1 (at5 x.2.2.2.1 0) (at5 x.2.2.2.1 1) (at5 x.2.2.2.1 2) (at5 x.2.2.2.1 3) (at5 x.2.2.2.1 4) x.2.1 x.2.2.1 false false)))) := sumF_ok (lk_nil Kn Try.prog) Try.checked.mixed Try.func12 (by kernel_rfl) (by rfl) 20 [] ev_of
def L_of : List (Nat × Summ) := (12, (sumF [.any, .any, .any, .dp ints] [.c .s, iS, iS, .c (.d ints)] (fun x => .p (.many (prC x.1 (at5 x.2.2.2.1 0) (at5 x.2.2.2.1 1) (at5 x.2.2.2.1 2) (at5 x.2.2.2.1 3) (at5 x.2.2.2.1 4) x.2.1 x.2.2.1 false false))))) :: []
theorem tok_of : TOk Kn Try.prog (lk L_of) := lk_cons ok_of (lk_nil Kn Try.prog)

theorem ev_acquires : ∀ x : denAs [prS], (evalFnL Try.prog (lk L_of) 20 noL Try.f13 (Try.f13.body.getD .skip) [] (encAs [prS] x) []).run = some ((fun x => .p (.many (prC x.1.1 x.1.2.1 x.1.2.2.1 x.1.2.2.2.1 x.1.2.2.2.2.1 x.1.2.2.2.2.2.1 x.1.2.2.2.2.2.2.1 x.1.2.2.2.2.2.2.2.1 true x.1.2.2.2.2.2.2.2.2.2.1))) x, []) := by
  rintro ⟨⟨(s : ByteArray), (a : Int), (b : Int), (c : Int), (d : Int), (e : Int), (r : Int), (m : Int), (x : Bool), (y : Bool), _⟩, _⟩
  kernel_rfl
theorem ok_acquires : SummOk Kn Try.prog 13 (sumF [.any] [prS] (fun x => .p (.many (prC x.1.1 x.1.2.1 x.1.2.2.1 x.1.2.2.2.1 x.1.2.2.2.2.1 x.1.2.2.2.2.2.1 x.1.2.2.2.2.2.2.1 x.1.2.2.2.2.2.2.2.1 true x.1.2.2.2.2.2.2.2.2.2.1)))) := sumF_ok tok_of Try.checked.mixed Try.func13 (by kernel_rfl) (by rfl) 20 [] ev_acquires
def L_acquires : List (Nat × Summ) := (13, (sumF [.any] [prS] (fun x => .p (.many (prC x.1.1 x.1.2.1 x.1.2.2.1 x.1.2.2.2.1 x.1.2.2.2.2.1 x.1.2.2.2.2.2.1 x.1.2.2.2.2.2.2.1 x.1.2.2.2.2.2.2.2.1 true x.1.2.2.2.2.2.2.2.2.2.1))))) :: L_of
theorem tok_acquires : TOk Kn Try.prog (lk L_acquires) := lk_cons ok_acquires tok_of

theorem ev_releases : ∀ x : denAs [prS], (evalFnL Try.prog (lk L_acquires) 20 noL Try.f14 (Try.f14.body.getD .skip) [] (encAs [prS] x) []).run = some ((fun x => .p (.many (prC x.1.1 x.1.2.1 x.1.2.2.1 x.1.2.2.2.1 x.1.2.2.2.2.1 x.1.2.2.2.2.2.1 x.1.2.2.2.2.2.2.1 x.1.2.2.2.2.2.2.2.1 x.1.2.2.2.2.2.2.2.2.1 true))) x, []) := by
  rintro ⟨⟨(s : ByteArray), (a : Int), (b : Int), (c : Int), (d : Int), (e : Int), (r : Int), (m : Int), (x : Bool), (y : Bool), _⟩, _⟩
  kernel_rfl
theorem ok_releases : SummOk Kn Try.prog 14 (sumF [.any] [prS] (fun x => .p (.many (prC x.1.1 x.1.2.1 x.1.2.2.1 x.1.2.2.2.1 x.1.2.2.2.2.1 x.1.2.2.2.2.2.1 x.1.2.2.2.2.2.2.1 x.1.2.2.2.2.2.2.2.1 x.1.2.2.2.2.2.2.2.2.1 true)))) := sumF_ok tok_acquires Try.checked.mixed Try.func14 (by kernel_rfl) (by rfl) 20 [] ev_releases
def L_releases : List (Nat × Summ) := (14, (sumF [.any] [prS] (fun x => .p (.many (prC x.1.1 x.1.2.1 x.1.2.2.1 x.1.2.2.2.1 x.1.2.2.2.2.1 x.1.2.2.2.2.2.1 x.1.2.2.2.2.2.2.1 x.1.2.2.2.2.2.2.2.1 x.1.2.2.2.2.2.2.2.2.1 true))))) :: L_acquires
theorem tok_releases : TOk Kn Try.prog (lk L_releases) := lk_cons ok_releases tok_acquires

theorem ev_table : ∀ x : denAs [], (evalFnL Try.prog (lk L_releases) 20 noL Try.f11 (Try.f11.body.getD .skip) [] (encAs [] x) []).run = some ((fun _ => .p (.many (flat tab))) x, []) := by
  rintro ⟨⟩
  kernel_rfl
theorem ok_table : SummOk Kn Try.prog 11 (sumF [] [] (fun _ => .p (.many (flat tab)))) := sumF_ok tok_releases Try.checked.mixed Try.func11 (by kernel_rfl) (by rfl) 20 [] ev_table
def L_table : List (Nat × Summ) := (11, (sumF [] [] (fun _ => .p (.many (flat tab))))) :: L_releases
theorem tok_table : TOk Kn Try.prog (lk L_table) := lk_cons ok_table tok_releases

theorem in28 {x : Int} (h : inR x = true) : x = 1 ∨ x = 2 ∨ x = 3 ∨ x = 4 ∨ x = 5 ∨ x = 6 ∨ x = 7 ∨ x = 8 ∨ x = 9 ∨ x = 10 ∨ x = 11 ∨ x = 12 ∨ x = 13 ∨ x = 14 ∨ x = 15 ∨ x = 16 ∨ x = 17 ∨ x = 18 ∨ x = 19 ∨ x = 20 ∨ x = 21 ∨ x = 22 ∨ x = 23 ∨ x = 24 ∨ x = 25 ∨ x = 26 ∨ x = 27 ∨ x = 28 := by
  simp only [inR, Bool.and_eq_true, decide_eq_true_eq] at h
  omega
theorem out28 {x : Int} (h : inR x = false) : x < 1 ∨ (¬ x < 1 ∧ 28 < x) := by
  simp only [inR, Bool.and_eq_false_iff, decide_eq_false_iff_not] at h
  omega
theorem ev_Of0 : ∀ x : Int, (evalFnL Try.prog (lk L_table) 20 noL Try.f6 (Try.f6.body.getD .skip) [] [.p (.one (.v (.int .i64 x)))] []).run = some (ofA x, []) := by
  intro x
  cases h : inR x with
  | true =>
    rcases in28 h with rfl | rfl | rfl | rfl | rfl | rfl | rfl | rfl | rfl | rfl | rfl | rfl | rfl | rfl | rfl | rfl | rfl | rfl | rfl | rfl | rfl | rfl | rfl | rfl | rfl | rfl | rfl | rfl <;> kernel_rfl
  | false =>
    have e : ofA x = .t [.many (tab.getD 0 []), .one (.v (.int .i64 130))] := by unfold ofA; rw [h]; rfl
    rw [e]
    rcases out28 h with h1 | ⟨h1, h2⟩
    · have k : Tree.cds [false, false, true, true] (evalFnL Try.prog (lk L_table) 20 noL Try.f6 (Try.f6.body.getD .skip) [] [.p (.one (.v (.int .i64 x)))] []) = [!decide (x < 1), false, true, true] := by kernel_rfl
      exact Tree.run_at (l := [false, false, true, true]) (by kernel_rfl) (by rw [k, decide_eq_true h1]; rfl)
    · have k : Tree.cds [true, true, true] (evalFnL Try.prog (lk L_table) 20 noL Try.f6 (Try.f6.body.getD .skip) [] [.p (.one (.v (.int .i64 x)))] []) = [!decide (x < 1), true, decide (28 < x)] := by kernel_rfl
      exact Tree.run_at (l := [true, true, true]) (by kernel_rfl) (by rw [k, decide_eq_false h1, decide_eq_true h2]; rfl)

theorem ev_Of : ∀ x : denAs [iS], (evalFnL Try.prog (lk L_table) 20 noL Try.f6 (Try.f6.body.getD .skip) [] (encAs [iS] x) []).run = some ((fun x => ofA x.1) x, []) := by
  rintro ⟨(x : Int), _⟩
  exact ev_Of0 x
theorem ok_Of : SummOk Kn Try.prog 6 (sumF [.any] [iS] (fun x => ofA x.1)) := sumF_ok tok_table Try.checked.mixed Try.func6 (by kernel_rfl) (by rfl) 20 [] ev_Of
def L_Of : List (Nat × Summ) := (6, (sumF [.any] [iS] (fun x => ofA x.1))) :: L_table
theorem tok_Of : TOk Kn Try.prog (lk L_Of) := lk_cons ok_Of tok_table

theorem ev_known : ∀ x : denAs [], (evalFnL Try.prog (lk L_Of) 20 noL Try.f5 (Try.f5.body.getD .skip) [] (encAs [] x) []).run = some ((fun _ => .p (.one (.v (.bool true)))) x, []) := by
  rintro ⟨⟩
  kernel_rfl
theorem ok_known : SummOk Kn Try.prog 5 (sumF [] [] (fun _ => .p (.one (.v (.bool true))))) := sumF_ok tok_Of Try.checked.mixed Try.func5 (by kernel_rfl) (by rfl) 20 [] ev_known
def L_known : List (Nat × Summ) := (5, (sumF [] [] (fun _ => .p (.one (.v (.bool true)))))) :: L_Of
theorem tok_known : TOk Kn Try.prog (lk L_known) := lk_cons ok_known tok_Of

end Go.Proofs.Ytoobnoghlebamaa
