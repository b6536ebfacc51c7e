/-
  Scalars: plain laws for the statements.
-/
import Derived.Test.YtlllbgcfhfgaeaaDoorScV
import Derived.Test.YtlllbgcfhfgaeaaDoorScB
namespace Go.Sc
open Go Go.Sy Go.Tn

theorem has_iff {k : Sc} {n : BitVec 64} : has k n = true ↔ Has k n := has_iff'
theorem has_const (n x : BitVec 64) : has (const n) x = (x == n) := by
  rw [Bool.eq_iff_iff, has_iff, beq_iff_eq]
  exact const_has
end Go.Sc
