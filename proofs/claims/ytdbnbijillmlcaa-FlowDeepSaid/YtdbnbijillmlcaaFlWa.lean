/-
  How deep calls go: rows of 1 to 8 subprograms (written by our own gen_flw.py).
-/
import Derived.Test.YtdbnbijillmlcaaFlZ
namespace Go.Proofs.Ytdbnbijillmlcaa
open Go Go.Sy Go.Sz Go.In Go.Fl Go.Proofs.Ytdbnbijillmlcaa
set_option linter.unusedVariables false
set_option linter.unusedSimpArgs false
set_option linter.constructorNameAsVariable false
set_option maxRecDepth 100000

def nestB {α : Type} : Nat → Bool → Option α → Option α
  | 0, _, x => x
  | n + 1, b, x => bif b then nestB n b x else none
/-- the last one of n subprograms calls k slots on -/
@[reducible] def cyK (n : Nat) (k : Int) : Slots := callsN (n - 1) ++ [callOn k, Fl.exitI]
/-- the subprogram that it calls -/
noncomputable def jOf (n : Nat) (l : Slots) : Int := idxP (partsD (l.length / 2) 0) (targetI l (2 * n - 2 : Nat)) 0
def fromB (n : Nat) (j : Int) : Bool := ((List.replicate n ((-1 : Int), ())).getD j.toNat (Tys.cons (Ty.i IntKind.i64) Tys.nil).dflt).1 == -1
def resD (d e : Int) : AV × List Ob := (.t [.one (.v (.int .i64 d)), .one (.v (.int .i64 e))], [])
noncomputable def goodD (l : Slots) : Bool := okR l && (okS l && okN l)
noncomputable def goodC (n : Nat) (l : Slots) : Bool := goodD l && (inB (jOf n l) n && fromB n (jOf n l))
theorem nestB_true {α : Type} (n : Nat) {b : Bool} (h : b = true) (x : Option α) : nestB n b x = x := by
  subst h
  induction n with
  | zero => rfl
  | succ n ih => exact ih
theorem deep_1 (q : Abs) : (evalFnL Try.prog (lkL (L_e1 q)) 60 noL Try.f11 (Try.f11.body.getD .skip) [] [.c (.d insT (deepL 1))] []).run = (bif q.R (deepL 1) then (bif q.S (deepL 1) then nestB 0 (q.N (deepL 1)) (some (resD 1 0)) else none) else none) := by kernel_rfl
theorem gdeep_1 : goodD (deepL 1) = true := by kernel_rfl
theorem deep_2 (q : Abs) : (evalFnL Try.prog (lkL (L_e2 q)) 60 noL Try.f11 (Try.f11.body.getD .skip) [] [.c (.d insT (deepL 2))] []).run = (bif q.R (deepL 2) then (bif q.S (deepL 2) then nestB 1 (q.N (deepL 2)) (some (resD 2 0)) else none) else none) := by kernel_rfl
theorem gdeep_2 : goodD (deepL 2) = true := by kernel_rfl
theorem cyc_2 (q : Abs) (k : Int) : (evalFnL Try.prog (lkL (L_e2 q)) 60 noL Try.f11 (Try.f11.body.getD .skip) [] [.c (.d insT (cyK 2 k))] []).run = (bif q.R (cyK 2 k) then (bif q.S (cyK 2 k) then nestB 2 (q.N (cyK 2 k)) (bif inB (jOf 2 (cyK 2 k)) 2 then (bif fromB 2 (jOf 2 (cyK 2 k)) then (bif fromB 2 (jOf 2 (cyK 2 k)) then some (resD 0 151) else none) else none) else none) else none) else none) := by kernel_rfl
theorem gcyc_2 : ((List.range 1).all fun t => goodC 2 (cycL 2 (2 * (t + 1)))) = true := by kernel_rfl
theorem deep_3 (q : Abs) : (evalFnL Try.prog (lkL (L_e3 q)) 60 noL Try.f11 (Try.f11.body.getD .skip) [] [.c (.d insT (deepL 3))] []).run = (bif q.R (deepL 3) then (bif q.S (deepL 3) then nestB 2 (q.N (deepL 3)) (some (resD 3 0)) else none) else none) := by kernel_rfl
theorem gdeep_3 : goodD (deepL 3) = true := by kernel_rfl
theorem cyc_3 (q : Abs) (k : Int) : (evalFnL Try.prog (lkL (L_e3 q)) 60 noL Try.f11 (Try.f11.body.getD .skip) [] [.c (.d insT (cyK 3 k))] []).run = (bif q.R (cyK 3 k) then (bif q.S (cyK 3 k) then nestB 3 (q.N (cyK 3 k)) (bif inB (jOf 3 (cyK 3 k)) 3 then (bif fromB 3 (jOf 3 (cyK 3 k)) then (bif fromB 3 (jOf 3 (cyK 3 k)) then some (resD 0 151) else none) else none) else none) else none) else none) := by kernel_rfl
theorem gcyc_3 : ((List.range 2).all fun t => goodC 3 (cycL 3 (2 * (t + 1)))) = true := by kernel_rfl
theorem deep_4 (q : Abs) : (evalFnL Try.prog (lkL (L_e4 q)) 60 noL Try.f11 (Try.f11.body.getD .skip) [] [.c (.d insT (deepL 4))] []).run = (bif q.R (deepL 4) then (bif q.S (deepL 4) then nestB 3 (q.N (deepL 4)) (some (resD 4 0)) else none) else none) := by kernel_rfl
theorem gdeep_4 : goodD (deepL 4) = true := by kernel_rfl
theorem cyc_4 (q : Abs) (k : Int) : (evalFnL Try.prog (lkL (L_e4 q)) 60 noL Try.f11 (Try.f11.body.getD .skip) [] [.c (.d insT (cyK 4 k))] []).run = (bif q.R (cyK 4 k) then (bif q.S (cyK 4 k) then nestB 4 (q.N (cyK 4 k)) (bif inB (jOf 4 (cyK 4 k)) 4 then (bif fromB 4 (jOf 4 (cyK 4 k)) then (bif fromB 4 (jOf 4 (cyK 4 k)) then some (resD 0 151) else none) else none) else none) else none) else none) := by kernel_rfl
theorem gcyc_4 : ((List.range 3).all fun t => goodC 4 (cycL 4 (2 * (t + 1)))) = true := by kernel_rfl
theorem deep_5 (q : Abs) : (evalFnL Try.prog (lkL (L_e5 q)) 60 noL Try.f11 (Try.f11.body.getD .skip) [] [.c (.d insT (deepL 5))] []).run = (bif q.R (deepL 5) then (bif q.S (deepL 5) then nestB 4 (q.N (deepL 5)) (some (resD 5 0)) else none) else none) := by kernel_rfl
theorem gdeep_5 : goodD (deepL 5) = true := by kernel_rfl
theorem cyc_5 (q : Abs) (k : Int) : (evalFnL Try.prog (lkL (L_e5 q)) 60 noL Try.f11 (Try.f11.body.getD .skip) [] [.c (.d insT (cyK 5 k))] []).run = (bif q.R (cyK 5 k) then (bif q.S (cyK 5 k) then nestB 5 (q.N (cyK 5 k)) (bif inB (jOf 5 (cyK 5 k)) 5 then (bif fromB 5 (jOf 5 (cyK 5 k)) then (bif fromB 5 (jOf 5 (cyK 5 k)) then some (resD 0 151) else none) else none) else none) else none) else none) := by kernel_rfl
theorem gcyc_5 : ((List.range 4).all fun t => goodC 5 (cycL 5 (2 * (t + 1)))) = true := by kernel_rfl
theorem deep_6 (q : Abs) : (evalFnL Try.prog (lkL (L_e6 q)) 60 noL Try.f11 (Try.f11.body.getD .skip) [] [.c (.d insT (deepL 6))] []).run = (bif q.R (deepL 6) then (bif q.S (deepL 6) then nestB 5 (q.N (deepL 6)) (some (resD 6 0)) else none) else none) := by kernel_rfl
theorem gdeep_6 : goodD (deepL 6) = true := by kernel_rfl
theorem cyc_6 (q : Abs) (k : Int) : (evalFnL Try.prog (lkL (L_e6 q)) 60 noL Try.f11 (Try.f11.body.getD .skip) [] [.c (.d insT (cyK 6 k))] []).run = (bif q.R (cyK 6 k) then (bif q.S (cyK 6 k) then nestB 6 (q.N (cyK 6 k)) (bif inB (jOf 6 (cyK 6 k)) 6 then (bif fromB 6 (jOf 6 (cyK 6 k)) then (bif fromB 6 (jOf 6 (cyK 6 k)) then some (resD 0 151) else none) else none) else none) else none) else none) := by kernel_rfl
theorem gcyc_6 : ((List.range 5).all fun t => goodC 6 (cycL 6 (2 * (t + 1)))) = true := by kernel_rfl
theorem deep_7 (q : Abs) : (evalFnL Try.prog (lkL (L_e7 q)) 60 noL Try.f11 (Try.f11.body.getD .skip) [] [.c (.d insT (deepL 7))] []).run = (bif q.R (deepL 7) then (bif q.S (deepL 7) then nestB 6 (q.N (deepL 7)) (some (resD 7 0)) else none) else none) := by kernel_rfl
theorem gdeep_7 : goodD (deepL 7) = true := by kernel_rfl
theorem cyc_7 (q : Abs) (k : Int) : (evalFnL Try.prog (lkL (L_e7 q)) 60 noL Try.f11 (Try.f11.body.getD .skip) [] [.c (.d insT (cyK 7 k))] []).run = (bif q.R (cyK 7 k) then (bif q.S (cyK 7 k) then nestB 7 (q.N (cyK 7 k)) (bif inB (jOf 7 (cyK 7 k)) 7 then (bif fromB 7 (jOf 7 (cyK 7 k)) then (bif fromB 7 (jOf 7 (cyK 7 k)) then some (resD 0 151) else none) else none) else none) else none) else none) := by kernel_rfl
theorem gcyc_7 : ((List.range 6).all fun t => goodC 7 (cycL 7 (2 * (t + 1)))) = true := by kernel_rfl
theorem deep_8 (q : Abs) : (evalFnL Try.prog (lkL (L_e8 q)) 60 noL Try.f11 (Try.f11.body.getD .skip) [] [.c (.d insT (deepL 8))] []).run = (bif q.R (deepL 8) then (bif q.S (deepL 8) then nestB 7 (q.N (deepL 8)) (some (resD 8 0)) else none) else none) := by kernel_rfl
theorem gdeep_8 : goodD (deepL 8) = true := by kernel_rfl
theorem cyc_8 (q : Abs) (k : Int) : (evalFnL Try.prog (lkL (L_e8 q)) 60 noL Try.f11 (Try.f11.body.getD .skip) [] [.c (.d insT (cyK 8 k))] []).run = (bif q.R (cyK 8 k) then (bif q.S (cyK 8 k) then nestB 8 (q.N (cyK 8 k)) (bif inB (jOf 8 (cyK 8 k)) 8 then (bif fromB 8 (jOf 8 (cyK 8 k)) then (bif fromB 8 (jOf 8 (cyK 8 k)) then some (resD 0 151) else none) else none) else none) else none) else none) := by kernel_rfl
theorem gcyc_8 : ((List.range 7).all fun t => goodC 8 (cycL 8 (2 * (t + 1)))) = true := by kernel_rfl
end Go.Proofs.Ytdbnbijillmlcaa
