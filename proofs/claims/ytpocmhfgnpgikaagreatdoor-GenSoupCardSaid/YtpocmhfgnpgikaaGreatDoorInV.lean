/-
  Instructions as bytes.
-/
import Derived.Test.YtpocmhfgnpgikaaGreatDoorInU
namespace Go.In
open Go Go.Sy Go.Sz
set_option linter.unusedVariables false
set_option linter.unusedSimpArgs false
abbrev u16 (f : Int) : Nat := (BitVec.ofInt 16 f).toNat
abbrev u32 (f : Int) : Nat := (BitVec.ofInt 32 f).toNat
/-! ### There and back -/
/-! ### The same things -/
def sameI (a b : Slots) : Bool := decide (a = b)
def sameP (a b : Parts) : Bool := decide (a = b)
theorem decI {a b : Slots} (h : a.length = b.length) (h2 : ∀ j : Nat, (j : Int) < a.length → a.getD j noIns = b.getD j noIns) : sameI a b = true := decide_eq_true (ext_getD noIns h fun j hj => h2 j (by omega))
theorem decI_no {a b : Slots} (j : Nat) (h : a.getD j noIns ≠ b.getD j noIns) : sameI a b = false := decide_eq_false fun e => h (by rw [e])
theorem decPs {a b : Parts} (h : a.length = b.length) (h2 : ∀ j : Nat, (j : Int) < a.length → a.getD j (0, 0, ()) = b.getD j (0, 0, ())) : sameP a b = true := decide_eq_true (ext_getD (0, 0, ()) h fun j hj => h2 j (by omega))
theorem beqI (a b : Ins) : (a.1 == b.1 && (a.2.1 == b.2.1 && (a.2.2.1 == b.2.2.1 && (a.2.2.2.1 == b.2.2.2.1 && (a.2.2.2.2.1 == b.2.2.2.2.1 && true))))) = decide (a = b) := by
  obtain ⟨a1, a2, a3, a4, a5, _⟩ := a
  obtain ⟨b1, b2, b3, b4, b5, _⟩ := b
  by_cases h : (a1, a2, a3, a4, a5, ()) = (b1, b2, b3, b4, b5, ())
  · rw [decide_eq_true h]
    simp only [Prod.mk.injEq] at h
    obtain ⟨rfl, rfl, rfl, rfl, rfl, _⟩ := h
    simp
  · rw [decide_eq_false h]
    rw [Bool.eq_false_iff]
    intro h2
    simp only [Bool.and_eq_true, beq_iff_eq] at h2
    exact h (by rw [h2.1, h2.2.1, h2.2.2.1, h2.2.2.2.1, h2.2.2.2.2.1])
end Go.In
