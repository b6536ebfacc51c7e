/-
  How deep calls go: rows of 12 to 14 subprograms (written by our own gen_flw.py).
-/
import Derived.Test.YtdbnbijillmlcaaFlWa
namespace Go.Proofs.Ytdbnbijillmlcaa
open Go Go.Sy Go.Sz Go.In Go.Fl Go.Proofs.Ytdbnbijillmlcaa
set_option linter.unusedVariables false
set_option linter.unusedSimpArgs false
set_option linter.constructorNameAsVariable false
set_option maxRecDepth 100000

theorem deep_12 (q : Abs) : (evalFnL Try.prog (lkL (L_e12 q)) 60 noL Try.f11 (Try.f11.body.getD .skip) [] [.c (.d insT (deepL 12))] []).run = (bif q.R (deepL 12) then (bif q.S (deepL 12) then nestB 11 (q.N (deepL 12)) (some (resD 0 151)) else none) else none) := by kernel_rfl
theorem gdeep_12 : goodD (deepL 12) = true := by kernel_rfl
theorem cyc_12 (q : Abs) (k : Int) : (evalFnL Try.prog (lkL (L_e12 q)) 60 noL Try.f11 (Try.f11.body.getD .skip) [] [.c (.d insT (cyK 12 k))] []).run = (bif q.R (cyK 12 k) then (bif q.S (cyK 12 k) then nestB 12 (q.N (cyK 12 k)) (bif inB (jOf 12 (cyK 12 k)) 12 then (bif fromB 12 (jOf 12 (cyK 12 k)) then (bif fromB 12 (jOf 12 (cyK 12 k)) then some (resD 0 151) else none) else none) else none) else none) else none) := by kernel_rfl
theorem gcyc_12 : ((List.range 11).all fun t => goodC 12 (cycL 12 (2 * (t + 1)))) = true := by kernel_rfl
theorem deep_13 (q : Abs) : (evalFnL Try.prog (lkL (L_e13 q)) 60 noL Try.f11 (Try.f11.body.getD .skip) [] [.c (.d insT (deepL 13))] []).run = (bif q.R (deepL 13) then (bif q.S (deepL 13) then nestB 12 (q.N (deepL 13)) (some (resD 0 151)) else none) else none) := by kernel_rfl
theorem gdeep_13 : goodD (deepL 13) = true := by kernel_rfl
theorem cyc_13 (q : Abs) (k : Int) : (evalFnL Try.prog (lkL (L_e13 q)) 60 noL Try.f11 (Try.f11.body.getD .skip) [] [.c (.d insT (cyK 13 k))] []).run = (bif q.R (cyK 13 k) then (bif q.S (cyK 13 k) then nestB 13 (q.N (cyK 13 k)) (bif inB (jOf 13 (cyK 13 k)) 13 then (bif fromB 13 (jOf 13 (cyK 13 k)) then (bif fromB 13 (jOf 13 (cyK 13 k)) then some (resD 0 151) else none) else none) else none) else none) else none) := by kernel_rfl
theorem gcyc_13 : ((List.range 12).all fun t => goodC 13 (cycL 13 (2 * (t + 1)))) = true := by kernel_rfl
theorem deep_14 (q : Abs) : (evalFnL Try.prog (lkL (L_e14 q)) 60 noL Try.f11 (Try.f11.body.getD .skip) [] [.c (.d insT (deepL 14))] []).run = (bif q.R (deepL 14) then (bif q.S (deepL 14) then nestB 13 (q.N (deepL 14)) (some (resD 0 151)) else none) else none) := by kernel_rfl
theorem gdeep_14 : goodD (deepL 14) = true := by kernel_rfl
theorem cyc_14 (q : Abs) (k : Int) : (evalFnL Try.prog (lkL (L_e14 q)) 60 noL Try.f11 (Try.f11.body.getD .skip) [] [.c (.d insT (cyK 14 k))] []).run = (bif q.R (cyK 14 k) then (bif q.S (cyK 14 k) then nestB 14 (q.N (cyK 14 k)) (bif inB (jOf 14 (cyK 14 k)) 14 then (bif fromB 14 (jOf 14 (cyK 14 k)) then (bif fromB 14 (jOf 14 (cyK 14 k)) then some (resD 0 151) else none) else none) else none) else none) else none) := by kernel_rfl
theorem gcyc_14 : ((List.range 13).all fun t => goodC 14 (cycL 14 (2 * (t + 1)))) = true := by kernel_rfl
end Go.Proofs.Ytdbnbijillmlcaa
