/-
  Ranges have their ends; what the laws on holding ask.
-/
import Derived.Test.YtlaaljiffcablaaGreatDoorTnN
import Derived.Lib.BitFns
namespace Go.Tn
open Go Go.Sy

theorem bitLen_lt (x : Nat) (h : x < 2 ^ 64) : x < 2 ^ Lib.bitLen x ∧ Lib.bitLen x ≤ 64 := by
  have key : ∀ (k x : Nat), x < 2 ^ k → k ≤ 64 → x < 2 ^ Lib.bitLen x ∧ Lib.bitLen x ≤ k := by
    intro k
    induction k with
    | zero => intro x hx _; have : x = 0 := by omega
              subst this; decide
    | succ k ih =>
      intro x hx hk
      by_cases h0 : x = 0
      · subst h0; refine ⟨by decide, ?_⟩; show 0 ≤ k + 1; omega
      · have h64 : x < 2 ^ 64 := Nat.lt_of_lt_of_le hx (Nat.pow_le_pow_right (by decide) hk)
        rw [Lib.bitLen_half x h0 h64]
        obtain ⟨h1, h2⟩ := ih (x / 2) (by rw [Nat.pow_succ] at hx; omega) (by omega)
        refine ⟨?_, by omega⟩
        rw [Nat.add_comm, Nat.pow_succ]
        omega
  exact key 64 x h (by decide)

theorem high_zero {x : BitVec 64} {i : Nat} (h : len64 x ≤ (i : Int)) : bt x i = false := by
  obtain ⟨h1, _⟩ := bitLen_lt x.toNat x.isLt
  rw [bt_nat]
  unfold len64 at h
  exact Nat.testBit_lt_two_pow (Nat.lt_of_lt_of_le h1 (Nat.pow_le_pow_right (by decide) (by omega)))

theorem bt_mask {l : Nat} (hl : l ≤ 64) (i : Nat) : bt ((BitVec.ofInt 64 1 <<< l) - BitVec.ofInt 64 1) i = decide (i < l) := by
  rw [bt_nat]
  have e : ((BitVec.ofInt 64 1 <<< l) - BitVec.ofInt 64 1).toNat = 2 ^ l - 1 := by
    have h1 : (BitVec.ofInt 64 1).toNat = 1 := by decide
    rw [BitVec.toNat_sub, BitVec.toNat_shiftLeft, Nat.shiftLeft_eq, h1, Nat.one_mul]
    have h2 : 0 < 2 ^ l := Nat.pow_pos (by decide)
    by_cases h : l = 64
    · subst h; decide
    · have h3 : 2 ^ l < 2 ^ 64 := Nat.pow_lt_pow_right (by decide) (by omega)
      rw [Nat.mod_eq_of_lt h3]
      omega
  rw [e, Nat.testBit_two_pow_sub_one]

/-- A number that is one of the two ends is in their range. -/
theorem range_end {l m x : BitVec 64} (hx : x = l ∨ x = m) (hlm : BitVec.ult m l = false) : has (range l m) x = true := by
  have e : range l m = of l ((BitVec.ofInt 64 1 <<< (len64 (l ^^^ m)).toNat) - BitVec.ofInt 64 1) := by unfold range; rw [hlm]; rfl
  rw [e, has_iff (ok_of' _ _)]
  refine mem_of fun i hi hm => ?_
  have hlen : (len64 (l ^^^ m)).toNat ≤ 64 := by
    have := (bitLen_lt (l ^^^ m).toNat (l ^^^ m).isLt).2
    unfold len64; omega
  rw [bt_mask hlen i] at hm
  have h1 : len64 (l ^^^ m) ≤ (i : Int) := by have := of_decide_eq_false hm; omega
  have h2 := high_zero h1
  rw [bt_xor] at h2
  rcases hx with rfl | rfl
  · rfl
  · exact (by decide : ∀ p q : Bool, (p ^^ q) = false → q = p) _ _ h2

theorem has_join {a b : Tn} (ha : ok a = true) (hb : ok b = true) {x : BitVec 64} (hx : Mem a x) : has (join a b) x = true := by
  have hj : ok (join a b) = true := by rw [join_v ha hb]; exact ok_of' _ _
  exact (has_iff hj).2 (inn_mem ha hj (join_in ha hb) hx)
theorem has_meet {a b : Tn} (ha : ok a = true) (hb : ok b = true) {x : BitVec 64} (hx : Mem a x) (hy : Mem b x) : meetOk a b = true ∧ has (meet a b) x = true := by
  have h1 : meetOk a b = true := by
    unfold meetOk
    rw [right_ok ha, right_ok hb, meetB_iff]
    exact fun i hi h1 h2 => (hx i hi h1).symm.trans (hy i hi h2)
  refine ⟨h1, ?_⟩
  rw [has_iff (meet_ok ha hb h1), meet_v ha hb h1]
  intro i hi hm
  have hm : bt (a.m &&& b.m) i = false := hm
  show bt x i = bt (a.v ||| b.v) i
  rw [bt_and] at hm
  rw [bt_or]
  have k1 := hx i hi
  have k2 := hy i hi
  have o1 := ok_bit ha i
  have o2 := ok_bit hb i
  cases ha' : bt a.m i with
  | false =>
    rw [ha'] at k1 o1
    have e1 := k1 rfl
    cases hb' : bt b.m i with
    | false => rw [hb'] at k2; have e2 := k2 rfl; rw [← e1, ← e2]; simp
    | true => rw [hb'] at o2; rw [e1]; simp at o2; rw [o2]; simp
  | true =>
    rw [ha'] at hm o1
    simp at hm o1
    have e2 := k2 hm
    rw [e2, o1]; simp
end Go.Tn
