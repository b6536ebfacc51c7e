/-
  How deep a program's parts call one another: the contract of the function that calls itself, level by level.
-/
import Derived.Test.YtfbldjaepenfpaaGreatDoorVyA
import Derived.Test.YtfbldjaepenfpaaGreatDoorVyP
namespace Go.Proofs.YtfbldjaepenfpaaGreatDoor
open Go Go.Sy Go.Sz Go.Vy
set_option linter.unusedVariables false
set_option maxRecDepth 1000000
noncomputable def dep : Nat → Summ
  | 0 => mkS L_v6 Tryz.f272
  | n + 1 => mkS ((272, dep n) :: L_v6) Tryz.f272
theorem ok_dep : ∀ n : Nat, SummOk Kn Tryz.prog 272 (dep n)
  | 0 => sumE_ok (tok_cl tok_v6) Tryz.checked.mixed Tryz.func272 (by kernel_rfl) (by rfl) 400 []
  | n + 1 => sumE_ok (tok_cl (lk_cons (ok_dep n) tok_v6)) Tryz.checked.mixed Tryz.func272 (by kernel_rfl) (by rfl) 400 []
noncomputable def S181 : Summ := mkS ((272, dep 24) :: L_v6) Tryz.f191
theorem ok181 : SummOk Kn Tryz.prog 191 S181 := sumE_ok (tok_cl (lk_cons (ok_dep 24) tok_v6)) Tryz.checked.mixed Tryz.func191 (by kernel_rfl) (by rfl) 400 []
noncomputable def S179 : Summ := mkS ((191, S181) :: L_v6) Tryz.f189
theorem ok179 : SummOk Kn Tryz.prog 189 S179 := sumE_ok (tok_cl (lk_cons ok181 tok_v6)) Tryz.checked.mixed Tryz.func189 (by kernel_rfl) (by rfl) 400 []
noncomputable def S97 : Summ := mkS ((189, S179) :: (191, S181) :: L_v6) Tryz.f112
theorem ok97 : SummOk Kn Tryz.prog 112 S97 := sumE_ok (tok_cl (lk_cons ok179 (lk_cons ok181 tok_v6))) Tryz.checked.mixed Tryz.func112 (by kernel_rfl) (by rfl) 400 []
end Go.Proofs.YtfbldjaepenfpaaGreatDoor
namespace Go.Proofs.YtfbldjaepenfpaaGreatDoor
open Go Go.Sy Go.Sz Go.Vy
set_option linter.unusedVariables false
set_option linter.unusedSimpArgs false
set_option maxRecDepth 1000000
noncomputable abbrev KW (k : Int) : BitVec 64 := BitVec.ofInt 64 (IntKind.i64.wrap k)
end Go.Proofs.YtfbldjaepenfpaaGreatDoor
