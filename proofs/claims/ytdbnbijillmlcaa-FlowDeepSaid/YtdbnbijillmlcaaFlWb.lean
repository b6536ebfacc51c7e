/-
  How deep calls go: rows of 9 to 11 subprograms (written by our own gen_flw.py).
-/
import Derived.Test.YtdbnbijillmlcaaFlWa
namespace Go.Proofs.Ytdbnbijillmlcaa
open Go Go.Sy Go.Sz Go.In Go.Fl Go.Proofs.Ytdbnbijillmlcaa
set_option linter.unusedVariables false
set_option linter.unusedSimpArgs false
set_option linter.constructorNameAsVariable false
set_option maxRecDepth 100000

theorem deep_9 (q : Abs) : (evalFnL Try.prog (lkL (L_e9 q)) 60 noL Try.f11 (Try.f11.body.getD .skip) [] [.c (.d insT (deepL 9))] []).run = (bif q.R (deepL 9) then (bif q.S (deepL 9) then nestB 8 (q.N (deepL 9)) (some (resD 0 151)) else none) else none) := by kernel_rfl
theorem gdeep_9 : goodD (deepL 9) = true := by kernel_rfl
theorem cyc_9 (q : Abs) (k : Int) : (evalFnL Try.prog (lkL (L_e9 q)) 60 noL Try.f11 (Try.f11.body.getD .skip) [] [.c (.d insT (cyK 9 k))] []).run = (bif q.R (cyK 9 k) then (bif q.S (cyK 9 k) then nestB 9 (q.N (cyK 9 k)) (bif inB (jOf 9 (cyK 9 k)) 9 then (bif fromB 9 (jOf 9 (cyK 9 k)) then (bif fromB 9 (jOf 9 (cyK 9 k)) then some (resD 0 151) else none) else none) else none) else none) else none) := by kernel_rfl
theorem gcyc_9 : ((List.range 8).all fun t => goodC 9 (cycL 9 (2 * (t + 1)))) = true := by kernel_rfl
theorem deep_10 (q : Abs) : (evalFnL Try.prog (lkL (L_e10 q)) 60 noL Try.f11 (Try.f11.body.getD .skip) [] [.c (.d insT (deepL 10))] []).run = (bif q.R (deepL 10) then (bif q.S (deepL 10) then nestB 9 (q.N (deepL 10)) (some (resD 0 151)) else none) else none) := by kernel_rfl
theorem gdeep_10 : goodD (deepL 10) = true := by kernel_rfl
theorem cyc_10 (q : Abs) (k : Int) : (evalFnL Try.prog (lkL (L_e10 q)) 60 noL Try.f11 (Try.f11.body.getD .skip) [] [.c (.d insT (cyK 10 k))] []).run = (bif q.R (cyK 10 k) then (bif q.S (cyK 10 k) then nestB 10 (q.N (cyK 10 k)) (bif inB (jOf 10 (cyK 10 k)) 10 then (bif fromB 10 (jOf 10 (cyK 10 k)) then (bif fromB 10 (jOf 10 (cyK 10 k)) then some (resD 0 151) else none) else none) else none) else none) else none) := by kernel_rfl
theorem gcyc_10 : ((List.range 9).all fun t => goodC 10 (cycL 10 (2 * (t + 1)))) = true := by kernel_rfl
theorem deep_11 (q : Abs) : (evalFnL Try.prog (lkL (L_e11 q)) 60 noL Try.f11 (Try.f11.body.getD .skip) [] [.c (.d insT (deepL 11))] []).run = (bif q.R (deepL 11) then (bif q.S (deepL 11) then nestB 10 (q.N (deepL 11)) (some (resD 0 151)) else none) else none) := by kernel_rfl
theorem gdeep_11 : goodD (deepL 11) = true := by kernel_rfl
theorem cyc_11 (q : Abs) (k : Int) : (evalFnL Try.prog (lkL (L_e11 q)) 60 noL Try.f11 (Try.f11.body.getD .skip) [] [.c (.d insT (cyK 11 k))] []).run = (bif q.R (cyK 11 k) then (bif q.S (cyK 11 k) then nestB 11 (q.N (cyK 11 k)) (bif inB (jOf 11 (cyK 11 k)) 11 then (bif fromB 11 (jOf 11 (cyK 11 k)) then (bif fromB 11 (jOf 11 (cyK 11 k)) then some (resD 0 151) else none) else none) else none) else none) else none) := by kernel_rfl
theorem gcyc_11 : ((List.range 10).all fun t => goodC 11 (cycL 11 (2 * (t + 1)))) = true := by kernel_rfl
end Go.Proofs.Ytdbnbijillmlcaa
