/-
  How deep calls go: rows of 20 to 20 subprograms (written by our own gen_flw.py).
-/
import Derived.Test.YtdbnbijillmlcaaFlWa
namespace Go.Proofs.Ytdbnbijillmlcaa
open Go Go.Sy Go.Sz Go.In Go.Fl Go.Proofs.Ytdbnbijillmlcaa
set_option linter.unusedVariables false
set_option linter.unusedSimpArgs false
set_option linter.constructorNameAsVariable false
set_option maxRecDepth 100000

theorem deep_20 (q : Abs) : (evalFnL Try.prog (lkL (L_e20 q)) 60 noL Try.f11 (Try.f11.body.getD .skip) [] [.c (.d insT (deepL 20))] []).run = (bif q.R (deepL 20) then (bif q.S (deepL 20) then nestB 19 (q.N (deepL 20)) (some (resD 0 151)) else none) else none) := by kernel_rfl
theorem gdeep_20 : goodD (deepL 20) = true := by kernel_rfl
theorem cyc_20 (q : Abs) (k : Int) : (evalFnL Try.prog (lkL (L_e20 q)) 60 noL Try.f11 (Try.f11.body.getD .skip) [] [.c (.d insT (cyK 20 k))] []).run = (bif q.R (cyK 20 k) then (bif q.S (cyK 20 k) then nestB 20 (q.N (cyK 20 k)) (bif inB (jOf 20 (cyK 20 k)) 20 then (bif fromB 20 (jOf 20 (cyK 20 k)) then (bif fromB 20 (jOf 20 (cyK 20 k)) then some (resD 0 151) else none) else none) else none) else none) else none) := by kernel_rfl
theorem gcyc_20 : ((List.range 19).all fun t => goodC 20 (cycL 20 (2 * (t + 1)))) = true := by kernel_rfl
end Go.Proofs.Ytdbnbijillmlcaa
