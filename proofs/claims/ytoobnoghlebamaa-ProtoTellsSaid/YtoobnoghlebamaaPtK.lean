/-
  The contracts of package proto and its reference (written by our own gen_pt.py).
-/
import Derived.Test.YtoobnoghlebamaaPrX
import Derived.Test.YtoobnoghlebamaaPrK
namespace Go.Proofs.Ytoobnoghlebamaa.tl
open Go Go.Sy Go.Sz Go.Pr
set_option linter.unusedVariables false
set_option linter.unusedSimpArgs false
set_option maxRecDepth 100000

theorem ev0_Of : ∀ x : Int, (evalFnL Try.prog (lk L_table) 20 noL Try.f6 (Try.f6.body.getD .skip) [] [.p (.one (.v (.int .i64 x)))] []).run = some (ofX x, []) := by
  intro x
  cases h : inR x with
  | true =>
    rcases in28 h with rfl | rfl | rfl | rfl | rfl | rfl | rfl | rfl | rfl | rfl | rfl | rfl | rfl | rfl | rfl | rfl | rfl | rfl | rfl | rfl | rfl | rfl | rfl | rfl | rfl | rfl | rfl | rfl <;> kernel_rfl
  | false =>
    have e : ofX x = .t [.many (rowC row0), .one (.v (.int .i64 130))] := by unfold ofX Pr.rowAt errAt; rw [h]; rfl
    rw [e]
    rcases out28 h with h1 | ⟨h1, h2⟩
    · have k : Tree.cds [false, false, true, true] (evalFnL Try.prog (lk L_table) 20 noL Try.f6 (Try.f6.body.getD .skip) [] [.p (.one (.v (.int .i64 x)))] []) = [!decide (x < 1), false, true, true] := by kernel_rfl
      exact Tree.run_at (l := [false, false, true, true]) (by kernel_rfl) (by rw [k, decide_eq_true h1]; rfl)
    · have k : Tree.cds [true, true, true] (evalFnL Try.prog (lk L_table) 20 noL Try.f6 (Try.f6.body.getD .skip) [] [.p (.one (.v (.int .i64 x)))] []) = [!decide (x < 1), true, decide (28 < x)] := by kernel_rfl
      exact Tree.run_at (l := [true, true, true]) (by kernel_rfl) (by rw [k, decide_eq_false h1, decide_eq_true h2]; rfl)

theorem ev_Of : ∀ x : denAs [iS], (evalFnL Try.prog (lk L_table) 20 noL Try.f6 (Try.f6.body.getD .skip) [] (encAs [iS] x) []).run = some ((fun x => ofX x.1) x, []) := by
  rintro ⟨(x : Int), _⟩
  exact ev0_Of x
theorem ok_Of : SummOk Kn Try.prog 6 (sumF [.any] [iS] (fun x => ofX x.1)) := sumF_ok tok_table Try.checked.mixed Try.func6 (by kernel_rfl) (by rfl) 20 [] ev_Of
def L_Of : List (Nat × Summ) := (6, (sumF [.any] [iS] (fun x => ofX x.1))) :: L_table
theorem tok_Of : TOk Kn Try.prog (lk L_Of) := lk_cons ok_Of tok_table

theorem ev0_rOf : ∀ x : Int, (evalFnL Try.prog (lk L_Of) 20 noL Try.f7 (Try.f7.body.getD .skip) [] [.p (.one (.v (.int .i64 x)))] []).run = some (ofX x, []) := by
  intro x
  cases h : inR x with
  | true =>
    rcases in28 h with rfl | rfl | rfl | rfl | rfl | rfl | rfl | rfl | rfl | rfl | rfl | rfl | rfl | rfl | rfl | rfl | rfl | rfl | rfl | rfl | rfl | rfl | rfl | rfl | rfl | rfl | rfl | rfl <;> kernel_rfl
  | false =>
    have e : ofX x = .t [.many (rowC row0), .one (.v (.int .i64 130))] := by unfold ofX Pr.rowAt errAt; rw [h]; rfl
    rw [e]
    rcases out28 h with h1 | ⟨h1, h2⟩
    · have k : Tree.cds [false, false, true, true] (evalFnL Try.prog (lk L_Of) 20 noL Try.f7 (Try.f7.body.getD .skip) [] [.p (.one (.v (.int .i64 x)))] []) = [!decide (x < 1), false, true, true] := by kernel_rfl
      exact Tree.run_at (l := [false, false, true, true]) (by kernel_rfl) (by rw [k, decide_eq_true h1]; rfl)
    · have k : Tree.cds [true, true, true] (evalFnL Try.prog (lk L_Of) 20 noL Try.f7 (Try.f7.body.getD .skip) [] [.p (.one (.v (.int .i64 x)))] []) = [!decide (x < 1), true, decide (28 < x)] := by kernel_rfl
      exact Tree.run_at (l := [true, true, true]) (by kernel_rfl) (by rw [k, decide_eq_false h1, decide_eq_true h2]; rfl)

theorem ev_rOf : ∀ x : denAs [iS], (evalFnL Try.prog (lk L_Of) 20 noL Try.f7 (Try.f7.body.getD .skip) [] (encAs [iS] x) []).run = some ((fun x => ofX x.1) x, []) := by
  rintro ⟨(x : Int), _⟩
  exact ev0_rOf x
theorem ok_rOf : SummOk Kn Try.prog 7 (sumF [.any] [iS] (fun x => ofX x.1)) := sumF_ok tok_Of Try.checked.mixed Try.func7 (by kernel_rfl) (by rfl) 20 [] ev_rOf
def L_rOf : List (Nat × Summ) := (7, (sumF [.any] [iS] (fun x => ofX x.1))) :: L_Of
theorem tok_rOf : TOk Kn Try.prog (lk L_rOf) := lk_cons ok_rOf tok_Of

theorem ev_known : ∀ x : denAs [], (evalFnL Try.prog (lk L_rOf) 20 noL Try.f5 (Try.f5.body.getD .skip) [] (encAs [] x) []).run = some ((fun _ => .p (.one (.v (.bool true)))) x, []) := by
  rintro ⟨⟩
  kernel_rfl
theorem ok_known : SummOk Kn Try.prog 5 (sumF [] [] (fun _ => .p (.one (.v (.bool true))))) := sumF_ok tok_rOf Try.checked.mixed Try.func5 (by kernel_rfl) (by rfl) 20 [] ev_known
def L_known : List (Nat × Summ) := (5, (sumF [] [] (fun _ => .p (.one (.v (.bool true)))))) :: L_rOf
theorem tok_known : TOk Kn Try.prog (lk L_known) := lk_cons ok_known tok_rOf

noncomputable abbrev cF : Code := Try.f8.body.getD .skip
def pF : List Nat := [0, 1, 1]
def shF : Shape := ⟨[(0, .c .s), (4, .c (.h 0))], [.mp .str (.one (.i .i64))]⟩
def behF (s : ByteArray) : St := ⟨[(0, .p (.one (.v (.string s)))), (4, .p (.one (.h 0)))], [(0, .mp .str (.one (.i .i64)) names)], 1⟩
def orcF : Orc := ⟨shF, [], [0, 4], [], fun d => match d with
  | ((s, _, _), (l, _)) => Tree.ck (List.isEmpty l) (.ret (.normal, behF s))⟩
def LF : LT := oneL pF orcF noL
theorem partF (s : ByteArray) : (endT 0 orcF (evalCode Try.prog (lk L_known) Try.f8.ntmps 0 40 LF ((subAt cF pF).getD .skip) true pF) (shF.enc ((s, (), ()), ([], ())))).run = some (.normal, behF s) := by kernel_rfl
theorem lokF : LOk Try.prog (lk L_known) Try.f8.ntmps 0 40 LF cF := lok_part (noL_ok2 _ _ _ _ _ _ _) (by kernel_rfl) (by
  rintro ⟨⟨s, _, _⟩, ⟨l, _⟩⟩ ex st' h
  obtain ⟨h0, h⟩ := Tree.run_ck h
  obtain ⟨rfl, rfl⟩ : Ex.normal = ex ∧ behF s = st' := by have h := Option.some.inj h; injection h with h1 h2; exact ⟨h1, h2⟩
  cases l with
  | nil => exact partF s
  | cons a l => cases h0)
theorem ev_find (s : ByteArray) : (evalFnL Try.prog (lk L_known) 40 LF Try.f8 cF [] [.p (.one (.v (.string s)))] []).run = some (findA s, []) := by
  have e : (evalFnL Try.prog (lk L_known) 40 LF Try.f8 cF [] [.p (.one (.v (.string s)))] []).run = bif !(findO s).isSome then some (.t [.one (.v (.int .i64 0)), .one (.v (.int .i64 130))], []) else some (.t [.one (.v (.int .i64 ((findO s).getD 0))), .one (.v (.int .i64 0))], []) := by kernel_rfl
  refine e.trans ?_
  unfold findA findN findE
  cases (findO s).isSome <;> rfl
theorem ok_find : SummOk Kn Try.prog 8 (sumF [.any] [.c .s] (fun x => findA x.1)) :=
  sumS_ok tok_known Try.checked.mixed Try.func8 (by kernel_rfl) (by rfl) 40 [] (by
    rintro ⟨(s : ByteArray), _⟩ ⟨⟩ _
    exact ⟨LF, lokF, ev_find s⟩)
def L_find : List (Nat × Summ) := (8, (sumF [.any] [.c .s] (fun x => findA x.1))) :: L_known
theorem tok_find : TOk Kn Try.prog (lk L_find) := lk_cons ok_find tok_known

theorem ev_rfind : ∀ x : denAs [.c .s], (evalFnL Try.prog (lk L_find) 40 noL Try.f9 (Try.f9.body.getD .skip) [] (encAs [.c .s] x) []).run = some ((fun x => findA x.1) x, []) := by
  rintro ⟨(s : ByteArray), _⟩
  have e : (evalFnL Try.prog (lk L_find) 40 noL Try.f9 (Try.f9.body.getD .skip) [] [.p (.one (.v (.string s)))] []).run = chainI s nums := by kernel_rfl
  exact e.trans ((chainI_R s nums).trans (by rw [nums_names]; exact chain_find s names))
theorem ok_rfind : SummOk Kn Try.prog 9 (sumF [.any] [.c .s] (fun x => findA x.1)) := sumF_ok tok_find Try.checked.mixed Try.func9 (by kernel_rfl) (by rfl) 40 [] ev_rfind
def L_rfind : List (Nat × Summ) := (9, (sumF [.any] [.c .s] (fun x => findA x.1))) :: L_find
theorem tok_rfind : TOk Kn Try.prog (lk L_rfind) := lk_cons ok_rfind tok_find

theorem ok_all : SummOk Kn Try.prog 10 (sumS [] false [] [] (fun _ _ => true) (fun _ _ => (.p (.one (.h 0)), [.row prTys (rowsP.drop 1)]))) :=
  sumS_ok tok_rfind Try.checked.mixed Try.func10 (by kernel_rfl) (by rfl) 20 [] (by
    rintro ⟨⟩ ⟨⟩ _
    refine ⟨noL, noL_ok _ _ _ _ _ _, ?_⟩
    kernel_rfl)
def L_all : List (Nat × Summ) := (10, (sumS [] false [] [] (fun _ _ => true) (fun _ _ => (.p (.one (.h 0)), [.row prTys (rowsP.drop 1)])))) :: L_rfind
theorem tok_all : TOk Kn Try.prog (lk L_all) := lk_cons ok_all tok_rfind

end Go.Proofs.Ytoobnoghlebamaa.tl
