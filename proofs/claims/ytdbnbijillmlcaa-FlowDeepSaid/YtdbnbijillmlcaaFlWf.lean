/-
  How deep calls go: rows of 19 to 19 subprograms (written by our own gen_flw.py).
-/
import Derived.Test.YtdbnbijillmlcaaFlWa
namespace Go.Proofs.Ytdbnbijillmlcaa
open Go Go.Sy Go.Sz Go.In Go.Fl Go.Proofs.Ytdbnbijillmlcaa
set_option linter.unusedVariables false
set_option linter.unusedSimpArgs false
set_option linter.constructorNameAsVariable false
set_option maxRecDepth 100000

theorem deep_19 (q : Abs) : (evalFnL Try.prog (lkL (L_e19 q)) 60 noL Try.f11 (Try.f11.body.getD .skip) [] [.c (.d insT (deepL 19))] []).run = (bif q.R (deepL 19) then (bif q.S (deepL 19) then nestB 18 (q.N (deepL 19)) (some (resD 0 151)) else none) else none) := by kernel_rfl
theorem gdeep_19 : goodD (deepL 19) = true := by kernel_rfl
theorem cyc_19 (q : Abs) (k : Int) : (evalFnL Try.prog (lkL (L_e19 q)) 60 noL Try.f11 (Try.f11.body.getD .skip) [] [.c (.d insT (cyK 19 k))] []).run = (bif q.R (cyK 19 k) then (bif q.S (cyK 19 k) then nestB 19 (q.N (cyK 19 k)) (bif inB (jOf 19 (cyK 19 k)) 19 then (bif fromB 19 (jOf 19 (cyK 19 k)) then (bif fromB 19 (jOf 19 (cyK 19 k)) then some (resD 0 151) else none) else none) else none) else none) else none) := by kernel_rfl
theorem gcyc_19 : ((List.range 18).all fun t => goodC 19 (cycL 19 (2 * (t + 1)))) = true := by kernel_rfl
end Go.Proofs.Ytdbnbijillmlcaa
