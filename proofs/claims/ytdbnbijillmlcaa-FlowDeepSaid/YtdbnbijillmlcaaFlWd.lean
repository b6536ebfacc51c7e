/-
  How deep calls go: rows of 15 to 16 subprograms (written by our own gen_flw.py).
-/
import Derived.Test.YtdbnbijillmlcaaFlWa
namespace Go.Proofs.Ytdbnbijillmlcaa
open Go Go.Sy Go.Sz Go.In Go.Fl Go.Proofs.Ytdbnbijillmlcaa
set_option linter.unusedVariables false
set_option linter.unusedSimpArgs false
set_option linter.constructorNameAsVariable false
set_option maxRecDepth 100000

theorem deep_15 (q : Abs) : (evalFnL Try.prog (lkL (L_e15 q)) 60 noL Try.f11 (Try.f11.body.getD .skip) [] [.c (.d insT (deepL 15))] []).run = (bif q.R (deepL 15) then (bif q.S (deepL 15) then nestB 14 (q.N (deepL 15)) (some (resD 0 151)) else none) else none) := by kernel_rfl
theorem gdeep_15 : goodD (deepL 15) = true := by kernel_rfl
theorem cyc_15 (q : Abs) (k : Int) : (evalFnL Try.prog (lkL (L_e15 q)) 60 noL Try.f11 (Try.f11.body.getD .skip) [] [.c (.d insT (cyK 15 k))] []).run = (bif q.R (cyK 15 k) then (bif q.S (cyK 15 k) then nestB 15 (q.N (cyK 15 k)) (bif inB (jOf 15 (cyK 15 k)) 15 then (bif fromB 15 (jOf 15 (cyK 15 k)) then (bif fromB 15 (jOf 15 (cyK 15 k)) then some (resD 0 151) else none) else none) else none) else none) else none) := by kernel_rfl
theorem gcyc_15 : ((List.range 14).all fun t => goodC 15 (cycL 15 (2 * (t + 1)))) = true := by kernel_rfl
theorem deep_16 (q : Abs) : (evalFnL Try.prog (lkL (L_e16 q)) 60 noL Try.f11 (Try.f11.body.getD .skip) [] [.c (.d insT (deepL 16))] []).run = (bif q.R (deepL 16) then (bif q.S (deepL 16) then nestB 15 (q.N (deepL 16)) (some (resD 0 151)) else none) else none) := by kernel_rfl
theorem gdeep_16 : goodD (deepL 16) = true := by kernel_rfl
theorem cyc_16 (q : Abs) (k : Int) : (evalFnL Try.prog (lkL (L_e16 q)) 60 noL Try.f11 (Try.f11.body.getD .skip) [] [.c (.d insT (cyK 16 k))] []).run = (bif q.R (cyK 16 k) then (bif q.S (cyK 16 k) then nestB 16 (q.N (cyK 16 k)) (bif inB (jOf 16 (cyK 16 k)) 16 then (bif fromB 16 (jOf 16 (cyK 16 k)) then (bif fromB 16 (jOf 16 (cyK 16 k)) then some (resD 0 151) else none) else none) else none) else none) else none) := by kernel_rfl
theorem gcyc_16 : ((List.range 15).all fun t => goodC 16 (cycL 16 (2 * (t + 1)))) = true := by kernel_rfl
end Go.Proofs.Ytdbnbijillmlcaa
