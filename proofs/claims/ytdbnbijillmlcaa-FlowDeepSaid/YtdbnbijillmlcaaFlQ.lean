/-
  The rows of FlowDeep as the document's package makes them (written by our own gen_flq.py).
-/
import Derived.Test.YtdbnbijillmlcaaFlP
namespace Go.Proofs.Ytdbnbijillmlcaa
open Go Go.Sy Go.Sz Go.In Go.Fl Go.Proofs.Ytdbnbijillmlcaa
set_option linter.unusedVariables false
set_option linter.unusedSimpArgs false
set_option linter.constructorNameAsVariable false
set_option maxRecDepth 100000

/-- "call +1; exit; " -/
def pairB : ByteArray := ⟨#[99, 97, 108, 108, 32, 43, 49, 59, 32, 101, 120, 105, 116, 59, 32]⟩
def zeroB : ByteArray := ⟨#[48]⟩
def reps : Nat → ByteArray
  | 0 => ⟨#[]⟩
  | n + 1 => reps n ++ pairB
noncomputable def F_linesw : denAs [.c .s] → denObs [] → Tree (AV × List Ob) := fun x y => match x, y with
  | (s, ()), () => .ite (decide (s.size ≤ 65536) && (pv (s.size + 1) (txt s) 0 0).isSome) (.ret (AV.c (.h 0), [.row insT ((pv (s.size + 1) (txt s) 0 0).getD [])])) .fail
theorem we_linesw : ∀ x y r, (F_linesw x y).run = some r → (F_lines x y).run = some r := by
  rintro ⟨s, ⟨⟩⟩ ⟨⟩ r e
  cases hb : decide (ByteArray.size s ≤ 65536) && (pv (ByteArray.size s + 1) (txt s) 0 0).isSome with
  | false => exact absurd ((goF hb).symm.trans e) (by intro h; cases h)
  | true =>
    have he := (goT hb).symm.trans e
    rw [Bool.and_eq_true] at hb
    exact (ckP_true ⟨of_decide_eq_true hb.1, hb.2⟩ _).trans he
theorem ok_linesw : SummOk Kn Try.prog 30 (sumT [.any] false [.c .s] [] F_linesw) := weakT ok_lines we_linesw
noncomputable def L_linesw : List (Nat × Summ) := (30, (sumT [.any] false [.c .s] [] F_linesw)) :: L_lines
theorem tok_linesw : TOk Kn Try.prog (lk L_linesw) := lk_cons ok_linesw tok_lines

theorem ok_n17 : SummOk Kn Try.prog 20 (sumE [.any] false Try.prog (lk L_linesw) 60 Try.f20 (Try.f20.body.getD .skip) []) := sumE_ok tok_linesw Try.checked.mixed Try.func20 (by kernel_rfl) (by rfl) 60 []
noncomputable def L_n17 : List (Nat × Summ) := (20, (sumE [.any] false Try.prog (lk L_linesw) 60 Try.f20 (Try.f20.body.getD .skip) [])) :: L_linesw
theorem tok_n17 : TOk Kn Try.prog (lk L_n17) := lk_cons ok_n17 tok_linesw

def ea_n17w : Int → denAs [.c (.i .i64)] := fun k => (k, ())
def eo_n17w : Int → denObs [] := fun k => ()
noncomputable def E_n17w : Int → Tree (AV × List Ob) := fun a => (evalFnL Try.prog (lk L_n17) 60 noL Try.f20 (Try.f20.body.getD .skip) [] (encAs [.c (.i .i64)] (ea_n17w a)) (encOs [] (eo_n17w a)))
theorem ev_n17w : ∀ a, (evalFnL Try.prog (lk L_n17) 60 noL Try.f20 (Try.f20.body.getD .skip) [] (encAs [.c (.i .i64)] (ea_n17w a)) (encOs [] (eo_n17w a))).run = (E_n17w a).run := by
  intro a; rfl
theorem n17_0 : (E_n17w 0).run = some (sStr zeroB) := by kernel_rfl
attribute [local irreducible] E_n17w
noncomputable def F_n17w : denAs [.c (.i .i64)] → denObs [] → Tree (AV × List Ob) := fun x y => match x, y with
  | (k, ()), () => .ite (decide (k = 0)) (.ret (sStr zeroB)) .fail
theorem fe_n17w : ∀ a y, (F_n17w (ea_n17w a) (eo_n17w a)).run = some y → (E_n17w a).run = some y := by
  intro k y h
  rcases three h with ⟨h1, h2⟩ | ⟨_, h⟩
  · have hk : k = 0 := of_decide_eq_true h1
    subst hk
    rw [← h2]
    exact n17_0
  · cases h
theorem ok_n17w : SummOk Kn Try.prog 20 (sumT [.any] false [.c (.i .i64)] [] F_n17w) := sumT_view tok_n17 Try.checked.mixed Try.func20 (by kernel_rfl) (by rfl) 60 [] ea_n17w eo_n17w
  (by rintro ⟨k, ⟨⟩⟩ ⟨⟩; exact ⟨k, rfl, rfl⟩) noL 0 (by rintro ⟨⟩; rfl) (noL_ok _ _ _ _ _ _) E_n17w ev_n17w fe_n17w
noncomputable def L_n17w : List (Nat × Summ) := (20, (sumT [.any] false [.c (.i .i64)] [] F_n17w)) :: L_n17
theorem tok_n17w : TOk Kn Try.prog (lk L_n17w) := lk_cons ok_n17w tok_n17

theorem ok_of : SummOk Kn Try.prog 19 (sumE [.any, .any] false Try.prog (lkL L_n17w) 60 Try.f19 (Try.f19.body.getD .skip) []) := sumE_ok (tok_lit tok_n17w) Try.checked.mixed Try.func19 (by kernel_rfl) (by rfl) 60 []
noncomputable def L_of : List (Nat × Summ) := (19, (sumE [.any, .any] false Try.prog (lkL L_n17w) 60 Try.f19 (Try.f19.body.getD .skip) [])) :: L_n17w
theorem tok_of : TOk Kn Try.prog (lk L_of) := lk_cons ok_of tok_n17w

def mainB : ByteArray := ⟨#[109, 97, 105, 110]⟩
/-- an object whose one program has these slots -/
def objD (l : Slots) : AV × List Ob := (.p (.many [.v (.slice none 0 0), .v (.slice none 0 0), .s 0 0 2 1 1]), [.lit [.v (.string mainB), .h 1], .row insT l])
def inD (n k : Int) : Bool := decide (1 ≤ n) && (decide (n ≤ 20) && decide (k = 0))
theorem inD_of {n k : Int} (h : inD n k = true) : 1 ≤ n ∧ n ≤ 20 ∧ k = 0 := by
  unfold inD at h
  simpa using h
noncomputable def F_deep : denAs [.c (.i .i64), .c (.i .i64)] → denObs [] → Tree (AV × List Ob) := fun x y => match x, y with
  | (n, k, ()), () => .ite (inD n k) (.ret (objD (deepL n.toNat))) .fail
theorem deepS_1 : (evalFnL Try.prog (lkL L_of) 60 noL Try.f10 (Try.f10.body.getD .skip) [] [.c (.v (.int .i64 1)), .c (.v (.int .i64 0))] []).run = some (objD (deepL 1)) := by kernel_rfl
theorem deepS_2 : (evalFnL Try.prog (lkL L_of) 60 noL Try.f10 (Try.f10.body.getD .skip) [] [.c (.v (.int .i64 2)), .c (.v (.int .i64 0))] []).run = some (objD (deepL 2)) := by kernel_rfl
theorem deepS_3 : (evalFnL Try.prog (lkL L_of) 60 noL Try.f10 (Try.f10.body.getD .skip) [] [.c (.v (.int .i64 3)), .c (.v (.int .i64 0))] []).run = some (objD (deepL 3)) := by kernel_rfl
theorem deepS_4 : (evalFnL Try.prog (lkL L_of) 60 noL Try.f10 (Try.f10.body.getD .skip) [] [.c (.v (.int .i64 4)), .c (.v (.int .i64 0))] []).run = some (objD (deepL 4)) := by kernel_rfl
theorem deepS_5 : (evalFnL Try.prog (lkL L_of) 60 noL Try.f10 (Try.f10.body.getD .skip) [] [.c (.v (.int .i64 5)), .c (.v (.int .i64 0))] []).run = some (objD (deepL 5)) := by kernel_rfl
theorem deepS_6 : (evalFnL Try.prog (lkL L_of) 60 noL Try.f10 (Try.f10.body.getD .skip) [] [.c (.v (.int .i64 6)), .c (.v (.int .i64 0))] []).run = some (objD (deepL 6)) := by kernel_rfl
theorem deepS_7 : (evalFnL Try.prog (lkL L_of) 60 noL Try.f10 (Try.f10.body.getD .skip) [] [.c (.v (.int .i64 7)), .c (.v (.int .i64 0))] []).run = some (objD (deepL 7)) := by kernel_rfl
theorem deepS_8 : (evalFnL Try.prog (lkL L_of) 60 noL Try.f10 (Try.f10.body.getD .skip) [] [.c (.v (.int .i64 8)), .c (.v (.int .i64 0))] []).run = some (objD (deepL 8)) := by kernel_rfl
theorem deepS_9 : (evalFnL Try.prog (lkL L_of) 60 noL Try.f10 (Try.f10.body.getD .skip) [] [.c (.v (.int .i64 9)), .c (.v (.int .i64 0))] []).run = some (objD (deepL 9)) := by kernel_rfl
theorem deepS_10 : (evalFnL Try.prog (lkL L_of) 60 noL Try.f10 (Try.f10.body.getD .skip) [] [.c (.v (.int .i64 10)), .c (.v (.int .i64 0))] []).run = some (objD (deepL 10)) := by kernel_rfl
theorem deepS_11 : (evalFnL Try.prog (lkL L_of) 60 noL Try.f10 (Try.f10.body.getD .skip) [] [.c (.v (.int .i64 11)), .c (.v (.int .i64 0))] []).run = some (objD (deepL 11)) := by kernel_rfl
theorem deepS_12 : (evalFnL Try.prog (lkL L_of) 60 noL Try.f10 (Try.f10.body.getD .skip) [] [.c (.v (.int .i64 12)), .c (.v (.int .i64 0))] []).run = some (objD (deepL 12)) := by kernel_rfl
theorem deepS_13 : (evalFnL Try.prog (lkL L_of) 60 noL Try.f10 (Try.f10.body.getD .skip) [] [.c (.v (.int .i64 13)), .c (.v (.int .i64 0))] []).run = some (objD (deepL 13)) := by kernel_rfl
theorem deepS_14 : (evalFnL Try.prog (lkL L_of) 60 noL Try.f10 (Try.f10.body.getD .skip) [] [.c (.v (.int .i64 14)), .c (.v (.int .i64 0))] []).run = some (objD (deepL 14)) := by kernel_rfl
theorem deepS_15 : (evalFnL Try.prog (lkL L_of) 60 noL Try.f10 (Try.f10.body.getD .skip) [] [.c (.v (.int .i64 15)), .c (.v (.int .i64 0))] []).run = some (objD (deepL 15)) := by kernel_rfl
theorem deepS_16 : (evalFnL Try.prog (lkL L_of) 60 noL Try.f10 (Try.f10.body.getD .skip) [] [.c (.v (.int .i64 16)), .c (.v (.int .i64 0))] []).run = some (objD (deepL 16)) := by kernel_rfl
theorem deepS_17 : (evalFnL Try.prog (lkL L_of) 60 noL Try.f10 (Try.f10.body.getD .skip) [] [.c (.v (.int .i64 17)), .c (.v (.int .i64 0))] []).run = some (objD (deepL 17)) := by kernel_rfl
theorem deepS_18 : (evalFnL Try.prog (lkL L_of) 60 noL Try.f10 (Try.f10.body.getD .skip) [] [.c (.v (.int .i64 18)), .c (.v (.int .i64 0))] []).run = some (objD (deepL 18)) := by kernel_rfl
theorem deepS_19 : (evalFnL Try.prog (lkL L_of) 60 noL Try.f10 (Try.f10.body.getD .skip) [] [.c (.v (.int .i64 19)), .c (.v (.int .i64 0))] []).run = some (objD (deepL 19)) := by kernel_rfl
theorem deepS_20 : (evalFnL Try.prog (lkL L_of) 60 noL Try.f10 (Try.f10.body.getD .skip) [] [.c (.v (.int .i64 20)), .c (.v (.int .i64 0))] []).run = some (objD (deepL 20)) := by kernel_rfl
theorem deepS (n : Nat) (h1 : 1 ≤ n) (h2 : n ≤ 20) : (evalFnL Try.prog (lkL L_of) 60 noL Try.f10 (Try.f10.body.getD .skip) [] [.c (.v (.int .i64 (n : Int))), .c (.v (.int .i64 0))] []).run = some (objD (deepL n)) := match n, h1, h2 with
  | 1, _, _ => deepS_1
  | 2, _, _ => deepS_2
  | 3, _, _ => deepS_3
  | 4, _, _ => deepS_4
  | 5, _, _ => deepS_5
  | 6, _, _ => deepS_6
  | 7, _, _ => deepS_7
  | 8, _, _ => deepS_8
  | 9, _, _ => deepS_9
  | 10, _, _ => deepS_10
  | 11, _, _ => deepS_11
  | 12, _, _ => deepS_12
  | 13, _, _ => deepS_13
  | 14, _, _ => deepS_14
  | 15, _, _ => deepS_15
  | 16, _, _ => deepS_16
  | 17, _, _ => deepS_17
  | 18, _, _ => deepS_18
  | 19, _, _ => deepS_19
  | 20, _, _ => deepS_20
  | n + 21, _, h => absurd h (by omega)
theorem ok_deep : SummOk Kn Try.prog 10 (sumT [.any, .any] false [.c (.i .i64), .c (.i .i64)] [] F_deep) := sumT_ok (tok_lit tok_of) Try.checked.mixed Try.func10 (by kernel_rfl) (by rfl) 60 [] (by
  rintro ⟨n, k, ⟨⟩⟩ ⟨⟩ v H' h
  rcases three h with ⟨h1, h2⟩ | ⟨_, h⟩
  · obtain ⟨h3, h4, h5⟩ := inD_of h1
    obtain ⟨m, rfl⟩ := Int.eq_ofNat_of_zero_le (show (0 : Int) ≤ n by omega)
    subst h5
    refine ⟨noL, noL_ok _ _ _ _ _ _, ?_⟩
    rw [← h2]
    exact deepS m (by omega) (by omega)
  · cases h)
noncomputable def L_deep : List (Nat × Summ) := (10, (sumT [.any, .any] false [.c (.i .i64), .c (.i .i64)] [] F_deep)) :: L_of
theorem tok_deep : TOk Kn Try.prog (lk L_deep) := lk_cons ok_deep tok_of

end Go.Proofs.Ytdbnbijillmlcaa
