/-
  The law FamWrite: no goroutine is started.
-/
import Derived.Test.YtfbldjaepenfpaaGreatDoorTie
import Derived.Test.YtfbldjaepenfpaaGreatDoorCards
import Derived.SevenTiedAt
import Derived.Lib.TrailingZeros
namespace Go.Proofs.YtfbldjaepenfpaaGreatDoor.fw
open Go Go.Proofs.YtfbldjaepenfpaaGreatDoor
set_option linter.unusedVariables false
set_option linter.unusedSimpArgs false
set_option maxRecDepth 100000
theorem goes_false {P : Program} (h : P.funcs.any Func.goes = false) {c : OpenClaim} (hs : c.start = .entering) : false = c.goesBy P := by
  have hf : ∀ g : Nat, (P.funcs[g]?).any Func.goes = false := fun g => by
    cases h2 : P.funcs[g]? with
    | none => rfl
    | some fn =>
      obtain ⟨hi, rfl⟩ := Array.getElem?_eq_some_iff.1 h2
      have := Array.any_eq_false.1 h g hi
      simpa using this
  have hg : ∀ f : FuncId, P.goes f = false := fun f => by
    unfold Program.goes
    rw [h, Bool.and_false, Bool.or_false]
    simp [hf]
  have hx : P.goesFrom c.func = false := by
    unfold Program.goesFrom
    cases P.funcNamed c.func with
    | none => rfl
    | some f => exact hg f
  unfold OpenClaim.goesBy Program.goesAt
  rw [hs, hx]; rfl
theorem goes_none : Tryz.prog.funcs.any Func.goes = false := by kernel_rfl
end Go.Proofs.YtfbldjaepenfpaaGreatDoor.fw
