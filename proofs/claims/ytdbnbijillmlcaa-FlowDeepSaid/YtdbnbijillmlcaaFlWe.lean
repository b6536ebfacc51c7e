/-
  How deep calls go: rows of 17 to 18 subprograms (written by our own gen_flw.py).
-/
import Derived.Test.YtdbnbijillmlcaaFlWa
namespace Go.Proofs.Ytdbnbijillmlcaa
open Go Go.Sy Go.Sz Go.In Go.Fl Go.Proofs.Ytdbnbijillmlcaa
set_option linter.unusedVariables false
set_option linter.unusedSimpArgs false
set_option linter.constructorNameAsVariable false
set_option maxRecDepth 100000

theorem deep_17 (q : Abs) : (evalFnL Try.prog (lkL (L_e17 q)) 60 noL Try.f11 (Try.f11.body.getD .skip) [] [.c (.d insT (deepL 17))] []).run = (bif q.R (deepL 17) then (bif q.S (deepL 17) then nestB 16 (q.N (deepL 17)) (some (resD 0 151)) else none) else none) := by kernel_rfl
theorem gdeep_17 : goodD (deepL 17) = true := by kernel_rfl
theorem cyc_17 (q : Abs) (k : Int) : (evalFnL Try.prog (lkL (L_e17 q)) 60 noL Try.f11 (Try.f11.body.getD .skip) [] [.c (.d insT (cyK 17 k))] []).run = (bif q.R (cyK 17 k) then (bif q.S (cyK 17 k) then nestB 17 (q.N (cyK 17 k)) (bif inB (jOf 17 (cyK 17 k)) 17 then (bif fromB 17 (jOf 17 (cyK 17 k)) then (bif fromB 17 (jOf 17 (cyK 17 k)) then some (resD 0 151) else none) else none) else none) else none) else none) := by kernel_rfl
theorem gcyc_17 : ((List.range 16).all fun t => goodC 17 (cycL 17 (2 * (t + 1)))) = true := by kernel_rfl
theorem deep_18 (q : Abs) : (evalFnL Try.prog (lkL (L_e18 q)) 60 noL Try.f11 (Try.f11.body.getD .skip) [] [.c (.d insT (deepL 18))] []).run = (bif q.R (deepL 18) then (bif q.S (deepL 18) then nestB 17 (q.N (deepL 18)) (some (resD 0 151)) else none) else none) := by kernel_rfl
theorem gdeep_18 : goodD (deepL 18) = true := by kernel_rfl
theorem cyc_18 (q : Abs) (k : Int) : (evalFnL Try.prog (lkL (L_e18 q)) 60 noL Try.f11 (Try.f11.body.getD .skip) [] [.c (.d insT (cyK 18 k))] []).run = (bif q.R (cyK 18 k) then (bif q.S (cyK 18 k) then nestB 18 (q.N (cyK 18 k)) (bif inB (jOf 18 (cyK 18 k)) 18 then (bif fromB 18 (jOf 18 (cyK 18 k)) then (bif fromB 18 (jOf 18 (cyK 18 k)) then some (resD 0 151) else none) else none) else none) else none) else none) := by kernel_rfl
theorem gcyc_18 : ((List.range 17).all fun t => goodC 18 (cycL 18 (2 * (t + 1)))) = true := by kernel_rfl
end Go.Proofs.Ytdbnbijillmlcaa
