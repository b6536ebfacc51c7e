/-
  Words: what the operations on unsigned numbers come to, said of bit vectors.
-/
import Derived.WalkKit
namespace Go.Sy
open Go Go.RowKit

theorem wrapNat {k : IntKind} (hk : k.signed = false) (n : Nat) : k.wrap (n : Int) = ((n % 2 ^ k.bits : Nat) : Int) := by
  unfold IntKind.wrap
  simp only [hk, Bool.false_and, Bool.false_eq_true, if_false]
  rw [Int.natCast_emod]
  simp

theorem wrapU {k : IntKind} (hk : k.signed = false) (n : Int) : k.wrap n = n % ((2 ^ k.bits : Nat) : Int) := by
  unfold IntKind.wrap
  simp only [hk, Bool.false_and, Bool.false_eq_true, if_false]
  simp

theorem wrap_toNat {k : IntKind} (hk : k.signed = false) (x : BitVec k.bits) : k.wrap (x.toNat : Int) = (x.toNat : Int) := by
  rw [wrapNat hk, Nat.mod_eq_of_lt x.isLt]

theorem ofInt_toNat {w : Nat} (x : BitVec w) : BitVec.ofInt w (x.toNat : Int) = x := by
  rw [BitVec.ofInt_natCast]; simp

theorem wrap_ofInt {k : IntKind} (hk : k.signed = false) (n : Int) : k.wrap n = ((BitVec.ofInt k.bits n).toNat : Int) := by
  rw [wrapU hk, BitVec.toNat_ofInt, Int.toNat_of_nonneg]
  exact Int.emod_nonneg _ (by have := Nat.two_pow_pos k.bits; omega)

section
variable {k : IntKind} (hk : k.signed = false) (x y : BitVec k.bits)
include hk

theorem w_add : k.wrap ((x.toNat : Int) + (y.toNat : Int)) = ((x + y).toNat : Int) := by
  rw [← Int.natCast_add, wrapNat hk, BitVec.toNat_add]
theorem w_mul : k.wrap ((x.toNat : Int) * (y.toNat : Int)) = ((x * y).toNat : Int) := by
  rw [← Int.natCast_mul, wrapNat hk, BitVec.toNat_mul]
theorem w_sub : k.wrap ((x.toNat : Int) - (y.toNat : Int)) = ((x - y).toNat : Int) := by
  rw [wrap_ofInt hk]
  congr 2
  rw [Int.sub_eq_add_neg, BitVec.ofInt_add, BitVec.ofInt_neg, ofInt_toNat, ofInt_toNat, BitVec.sub_eq_add_neg]
theorem w_neg : k.wrap (0 - (y.toNat : Int)) = ((-y).toNat : Int) := by
  rw [wrap_ofInt hk, Int.zero_sub, BitVec.ofInt_neg, ofInt_toNat]

theorem w_back (z : BitVec k.bits) : (pure (.int k (k.wrap (z.toNat : Int))) : Sem Value) = pure (.int k (z.toNat : Int)) := by rw [wrap_toNat hk]

omit hk in
theorem w_eq : ((x.toNat : Int) == (y.toNat : Int)) = (x == y) := by
  rw [Bool.eq_iff_iff, beq_iff_eq, beq_iff_eq, Int.natCast_inj, BitVec.toNat_inj]
omit hk in
theorem w_ne : ((x.toNat : Int) != (y.toNat : Int)) = (x != y) := by
  simp only [bne, w_eq]
omit hk in
theorem w_lt : decide ((x.toNat : Int) < (y.toNat : Int)) = BitVec.ult x y := by
  simp only [BitVec.ult, Int.ofNat_lt]
omit hk in
theorem w_le : decide ((x.toNat : Int) ≤ (y.toNat : Int)) = BitVec.ule x y := by
  simp only [BitVec.ule, Int.ofNat_le]

theorem w_shl (n : Nat) : k.wrap ((x.toNat : Int) * 2 ^ (min n k.bits)) = ((x <<< n).toNat : Int) := by
  have h2 : ((2 : Int) ^ (min n k.bits)) = ((2 ^ (min n k.bits) : Nat) : Int) := by simp
  rw [h2, ← Int.natCast_mul, wrapNat hk, BitVec.toNat_shiftLeft, Nat.shiftLeft_eq]
  congr 1
  by_cases h : n ≤ k.bits
  · rw [Nat.min_eq_left h]
  · have h' : k.bits ≤ n := by omega
    rw [Nat.min_eq_right h', Nat.mul_mod_left]
    obtain ⟨d, rfl⟩ : ∃ d, n = k.bits + d := ⟨n - k.bits, by omega⟩
    rw [Nat.pow_add, ← Nat.mul_assoc, Nat.mul_comm x.toNat, Nat.mul_assoc, Nat.mul_mod_right]

omit hk in
theorem w_shr (n : Nat) : (x.toNat : Int).fdiv (2 ^ (min n k.bits)) = ((x >>> n).toNat : Int) := by
  have h2 : ((2 : Int) ^ (min n k.bits)) = ((2 ^ (min n k.bits) : Nat) : Int) := by simp
  rw [h2, Int.fdiv_eq_ediv_of_nonneg _ (Int.natCast_nonneg _), ← Int.natCast_ediv, BitVec.toNat_ushiftRight, Nat.shiftRight_eq_div_pow]
  congr 1
  by_cases h : n ≤ k.bits
  · rw [Nat.min_eq_left h]
  · have h' : k.bits ≤ n := by omega
    rw [Nat.min_eq_right h', Nat.div_eq_of_lt x.isLt]
    exact (Nat.div_eq_of_lt (Nat.lt_of_lt_of_le x.isLt (Nat.pow_le_pow_right (by omega) h'))).symm

theorem w_div : k.wrap ((x.toNat : Int).tdiv (y.toNat : Int)) = ((x / y).toNat : Int) := by
  rw [Int.tdiv_eq_ediv_of_nonneg (by omega), ← Int.natCast_ediv, wrapNat hk, BitVec.toNat_udiv]
  congr 1
  exact Nat.mod_eq_of_lt (Nat.lt_of_le_of_lt (Nat.div_le_self _ _) x.isLt)
omit hk in
theorem w_mod : (x.toNat : Int).tmod (y.toNat : Int) = ((x % y).toNat : Int) := by
  rw [Int.tmod_eq_emod_of_nonneg (by omega), ← Int.natCast_emod, BitVec.toNat_umod]

omit hk in
theorem w_zero : ((y.toNat : Int) = 0) ↔ (y == 0#k.bits) = true := by
  rw [beq_iff_eq, ← BitVec.toNat_inj]
  simp

theorem w_not : BitVec.ofInt k.bits k.max ^^^ x = ~~~ x := by
  have : BitVec.ofInt k.bits k.max = BitVec.allOnes k.bits := by
    unfold IntKind.max
    rw [if_neg (by simp [hk]), Int.sub_eq_add_neg, BitVec.ofInt_add, BitVec.ofInt_neg, ← BitVec.sub_eq_add_neg]
    apply BitVec.eq_of_toNat_eq
    rw [BitVec.toNat_sub, BitVec.toNat_allOnes]
    have h2 : (BitVec.ofInt k.bits (2 ^ k.bits : Int)).toNat = 0 := by
      rw [BitVec.toNat_ofInt]
      have : ((2 : Int) ^ k.bits) = ((2 ^ k.bits : Nat) : Int) := by simp
      rw [this, Int.emod_self]; rfl
    have hpos := Nat.two_pow_pos k.bits
    have h1 : (BitVec.ofInt k.bits 1).toNat = 1 % 2 ^ k.bits := by
      rw [show (1 : Int) = ((1 : Nat) : Int) from rfl, BitVec.ofInt_natCast, BitVec.toNat_ofNat]
    rw [h2, h1]
    have hb : 1 < 2 ^ k.bits := by cases k <;> simp [IntKind.bits]
    rw [Nat.mod_eq_of_lt hb, Nat.add_zero, Nat.mod_eq_of_lt (by omega)]
  rw [this]
  simp
end

end Go.Sy
