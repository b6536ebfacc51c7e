/-
  The plain laws of scalars: what bringing the parts together keeps, and where it ends.
-/
import Derived.Test.YtlaaljiffcablaaGreatDoorScS
import Derived.Test.YtlaaljiffcablaaGreatDoorTnH
namespace Go.Sc
open Go Go.Sy Go.Tn

/-! ### Numbers -/
theorem ult_iff {x y : BitVec 64} : BitVec.ult x y = true ↔ x.toNat < y.toNat := by simp [BitVec.ult]
theorem ult_not {x y : BitVec 64} : BitVec.ult x y = false ↔ y.toNat ≤ x.toNat := by simp [BitVec.ult]
theorem ule_iff {x y : BitVec 64} : BitVec.ule x y = true ↔ x.toNat ≤ y.toNat := by simp [BitVec.ule]
theorem minU_nat (x y : BitVec 64) : (minU x y).toNat = min x.toNat y.toNat := by
  unfold minU
  cases h : BitVec.ult y x with
  | true => have := ult_iff.1 h; simp; omega
  | false => have := ult_not.1 h; simp; omega
theorem maxU_nat (x y : BitVec 64) : (maxU x y).toNat = max x.toNat y.toNat := by
  unfold maxU
  cases h : BitVec.ult x y with
  | true => have := ult_iff.1 h; simp; omega
  | false => have := ult_not.1 h; simp; omega
theorem minI_eq (x y : Int) : minI x y = min x y := by
  unfold minI
  by_cases h : y < x
  · simp [h]; omega
  · simp [h]; omega
theorem maxI_eq (x y : Int) : maxI x y = max x y := by
  unfold maxI
  by_cases h : x < y
  · simp [h]; omega
  · simp [h]; omega
theorem toInt_cases (x : BitVec 64) : (x.toNat < 9223372036854775808 ∧ x.toInt = (x.toNat : Int)) ∨ (9223372036854775808 ≤ x.toNat ∧ x.toInt = (x.toNat : Int) - 18446744073709551616) := by
  have := BitVec.toInt_eq_toNat_cond x
  have hx := x.isLt
  by_cases h : 2 * x.toNat < 2 ^ 64
  · rw [if_pos h] at this; exact .inl ⟨by omega, this⟩
  · rw [if_neg h] at this; exact .inr ⟨by omega, by rw [this]; rfl⟩
theorem toInt_rg (x : BitVec 64) : iMin ≤ x.toInt ∧ x.toInt ≤ iMax := by
  have hx := x.isLt
  rcases toInt_cases x with ⟨h1, h2⟩ | ⟨h1, h2⟩ <;> rw [h2] <;> simp only [iMin, iMax] <;> omega
theorem ofInt_nat {a : Int} (h0 : iMin ≤ a) (h1 : a ≤ iMax) : ((BitVec.ofInt 64 a).toNat : Int) = if 0 ≤ a then a else a + 18446744073709551616 := by
  rw [BitVec.toNat_ofInt]
  simp only [iMin, iMax] at h0 h1
  by_cases h : 0 ≤ a
  · rw [if_pos h]; omega
  · rw [if_neg h]; omega
theorem ofInt_toInt' {a : Int} (h0 : iMin ≤ a) (h1 : a ≤ iMax) : (BitVec.ofInt 64 a).toInt = a := by
  have := ofInt_nat h0 h1
  simp only [iMin, iMax] at h0 h1
  rcases toInt_cases (BitVec.ofInt 64 a) with ⟨h2, h3⟩ | ⟨h2, h3⟩ <;> rw [h3] <;> split at this <;> omega
theorem toInt_inj' {x y : BitVec 64} (h : x.toInt = y.toInt) : x = y := BitVec.toInt_inj.1 h

theorem msb_nat (x : BitVec 64) : x.msb = decide (9223372036854775808 ≤ x.toNat) := by
  rw [BitVec.msb_eq_decide]
theorem xor_sign (x y : BitVec 64) : (0 ≤ (x ^^^ y).toInt) ↔ ((9223372036854775808 ≤ x.toNat) ↔ (9223372036854775808 ≤ y.toNat)) := by
  have h := BitVec.msb_xor (x := x) (y := y)
  rw [msb_nat, msb_nat, msb_nat] at h
  have h1 : (0 ≤ (x ^^^ y).toInt) ↔ ¬ (9223372036854775808 ≤ (x ^^^ y).toNat) := by
    have := (x ^^^ y).isLt
    rcases toInt_cases (x ^^^ y) with ⟨h2, h3⟩ | ⟨h2, h3⟩ <;> rw [h3] <;> omega
  rw [h1]
  by_cases a : 9223372036854775808 ≤ x.toNat <;> by_cases b : 9223372036854775808 ≤ y.toNat <;> simp [a, b] at h ⊢ <;> omega
theorem wrap64 (n : Nat) (h : n < 2 ^ 64) : IntKind.i64.wrap (n : Int) = (BitVec.ofNat 64 n).toInt := by
  rw [IntKind.wrap_i64]
  have e : (BitVec.ofNat 64 n).toNat = n := by rw [BitVec.toNat_ofNat, Nat.mod_eq_of_lt h]
  rcases toInt_cases (BitVec.ofNat 64 n) with ⟨h2, h3⟩ | ⟨h2, h3⟩ <;> rw [h3, e] <;> rw [e] at h2 <;> omega
theorem xorI_sign {a b : Int} (ha0 : iMin ≤ a) (ha1 : a ≤ iMax) (hb0 : iMin ≤ b) (hb1 : b ≤ iMax) : (0 ≤ xorI a b) ↔ (a < 0 ↔ b < 0) := by
  unfold xorI
  rw [wrap64 _ (BitVec.isLt _), BitVec.ofNat_toNat, BitVec.setWidth_eq, xor_sign]
  have h1 := ofInt_nat ha0 ha1
  have h2 := ofInt_nat hb0 hb1
  simp only [iMin, iMax] at *
  split at h1 <;> split at h2 <;> omega

/-! ### Tnums have their least and their greatest number -/
theorem mem_least {t : Tn} (h : ok t = true) {n : BitVec 64} (hn : Mem t n) : t.v.toNat ≤ n.toNat := by
  have e : t.v = n &&& ~~~t.m := bext fun i hi => by
    rw [bt_and, bt_not hi]
    exact (by decide : ∀ x v m : Bool, (m = false → x = v) → (v && m) = false → v = (x && !m)) _ _ _ (hn i hi) (ok_bit h i)
  rw [e, BitVec.toNat_and]
  exact Nat.and_le_left
theorem mem_most {t : Tn} {n : BitVec 64} (hn : Mem t n) : n.toNat ≤ (mx t).toNat := by
  have e : mx t = n ||| mx t := bext fun i hi => by
    unfold mx
    rw [bt_or, bt_or, bt_or]
    exact (by decide : ∀ x v m : Bool, (m = false → x = v) → (v || m) = (x || (v || m))) _ _ _ (hn i hi)
  rw [e, BitVec.toNat_or]
  exact Nat.left_le_or
theorem least_ok {t : Tn} (h : ok t = true) : least t = t.v := by unfold least; rw [right_ok h]
theorem most_ok {t : Tn} (h : ok t = true) : most t = mx t := by unfold most mx; rw [right_ok h]

theorem range_ok (l m : BitVec 64) : ok (range l m) = true := by
  unfold range
  cases BitVec.ult m l with
  | true => exact ok_unknown'
  | false => exact ok_of' _ _
theorem bt_unknown {i : Nat} (hi : i < 64) : bt unknown.m i = true := by
  have : ∀ i, i < 64 → bt unknown.m i = true := by decide +kernel
  exact this i hi
theorem mem_unknown (n : BitVec 64) : Mem unknown n := fun i hi hm => by rw [bt_unknown hi] at hm; cases hm

/-- A number between the ends is in the range. -/
theorem mem_range {l m n : BitVec 64} (h1 : l.toNat ≤ n.toNat) (h2 : n.toNat ≤ m.toNat) : Mem (range l m) n := by
  have hlm : BitVec.ult m l = false := ult_not.2 (by omega)
  have e : range l m = of l ((BitVec.ofInt 64 1 <<< (len64 (l ^^^ m)).toNat) - BitVec.ofInt 64 1) := by unfold range; rw [hlm]; rfl
  rw [e]
  have hlen : (len64 (l ^^^ m)).toNat ≤ 64 := by
    have := (bitLen_lt (l ^^^ m).toNat (l ^^^ m).isLt).2
    unfold len64; omega
  have h0 : 0 ≤ len64 (l ^^^ m) := Int.natCast_nonneg _
  obtain ⟨k, hk⟩ : ∃ k : Nat, len64 (l ^^^ m) = (k : Int) := ⟨_, (Int.toNat_of_nonneg h0).symm⟩
  have hk' : (len64 (l ^^^ m)).toNat = k := by rw [hk]; rfl
  rw [hk'] at hlen ⊢
  have hbits : ∀ i, k ≤ i → l.toNat.testBit i = m.toNat.testBit i := fun i hi => by
    have := high_zero (x := l ^^^ m) (i := i) (by rw [hk]; omega)
    rw [bt_xor, bt_nat, bt_nat] at this
    exact (by decide : ∀ p q : Bool, (p ^^ q) = false → p = q) _ _ this
  have hdiv : l.toNat / 2 ^ k = m.toNat / 2 ^ k := by
    rw [← Nat.shiftRight_eq_div_pow, ← Nat.shiftRight_eq_div_pow]
    refine Nat.eq_of_testBit_eq fun i => ?_
    rw [Nat.testBit_shiftRight, Nat.testBit_shiftRight]
    exact hbits (k + i) (by omega)
  have hn : n.toNat / 2 ^ k = l.toNat / 2 ^ k := by
    have a := Nat.div_le_div_right (c := 2 ^ k) h1
    have b := Nat.div_le_div_right (c := 2 ^ k) h2
    omega
  refine mem_of fun i hi hm => ?_
  rw [bt_mask hlen i] at hm
  have hi' : k ≤ i := by have := of_decide_eq_false hm; omega
  have h3 : (n.toNat / 2 ^ k).testBit (i - k) = (l.toNat / 2 ^ k).testBit (i - k) := by rw [hn]
  rw [← Nat.shiftRight_eq_div_pow, ← Nat.shiftRight_eq_div_pow, Nat.testBit_shiftRight, Nat.testBit_shiftRight] at h3
  rw [bt_nat, bt_nat]
  rwa [show k + (i - k) = i by omega] at h3

theorem bitLen_ge (x : Nat) (h : x < 2 ^ 64) (h0 : x ≠ 0) : 2 ^ Lib.bitLen x ≤ 2 * x := by
  have key : ∀ (k x : Nat), x < 2 ^ k → k ≤ 64 → x ≠ 0 → 2 ^ Lib.bitLen x ≤ 2 * x := by
    intro k
    induction k with
    | zero => intro x hx _ h0; omega
    | succ k ih =>
      intro x hx hk h0
      have h64 : x < 2 ^ 64 := Nat.lt_of_lt_of_le hx (Nat.pow_le_pow_right (by decide) hk)
      rw [Lib.bitLen_half x h0 h64]
      by_cases h1 : x / 2 = 0
      · have : x = 1 := by omega
        subst this
        decide
      · have := ih (x / 2) (by rw [Nat.pow_succ] at hx; omega) (by omega) h1
        rw [Nat.add_comm, Nat.pow_succ]
        omega
  exact key 64 x h (by decide) h0

/-- Where a range knows a bit not, there are numbers of both kinds in it. -/
theorem range_tight {l m : BitVec 64} (h : l.toNat ≤ m.toNat) {i : Nat} (hi : i < 64) (hm : bt (range l m).m i = true) :
    ∃ n n' : BitVec 64, l.toNat ≤ n.toNat ∧ n.toNat ≤ m.toNat ∧ l.toNat ≤ n'.toNat ∧ n'.toNat ≤ m.toNat ∧ bt n i = true ∧ bt n' i = false := by
  have hlm : BitVec.ult m l = false := ult_not.2 h
  have e : range l m = of l ((BitVec.ofInt 64 1 <<< (len64 (l ^^^ m)).toNat) - BitVec.ofInt 64 1) := by unfold range; rw [hlm]; rfl
  have hlen := (bitLen_lt (l ^^^ m).toNat (l ^^^ m).isLt)
  have hL : (len64 (l ^^^ m)).toNat = Lib.bitLen (l ^^^ m).toNat := rfl
  rw [e] at hm
  have hm : bt ((BitVec.ofInt 64 1 <<< (len64 (l ^^^ m)).toNat) - BitVec.ofInt 64 1) i = true := hm
  rw [bt_mask (by rw [hL]; exact hlen.2) i, hL] at hm
  have hm := of_decide_eq_true hm
  obtain ⟨K, hK⟩ : ∃ K, Lib.bitLen (l ^^^ m).toNat = K + 1 := ⟨Lib.bitLen (l ^^^ m).toNat - 1, by omega⟩
  rw [hK] at hlen hm
  have hne : (l ^^^ m).toNat ≠ 0 := fun e0 => by
    rw [e0] at hK
    have : Lib.bitLen 0 = 0 := by decide
    omega
  have hge := bitLen_ge _ (l ^^^ m).isLt hne
  rw [hK, Nat.pow_succ] at hge
  rw [BitVec.toNat_xor] at hlen hge
  have hbits : ∀ j, K + 1 ≤ j → l.toNat.testBit j = m.toNat.testBit j := fun j hj => by
    have h1 : (l.toNat ^^^ m.toNat).testBit j = false := Nat.testBit_lt_two_pow (Nat.lt_of_lt_of_le hlen.1 (Nat.pow_le_pow_right (by decide) hj))
    rw [Nat.testBit_xor] at h1
    exact (by decide : ∀ p q : Bool, (p ^^ q) = false → p = q) _ _ h1
  have htop : (l.toNat ^^^ m.toNat).testBit K = true := by
    rw [Nat.testBit_eq_decide_div_mod_eq]
    have h2 : (l.toNat ^^^ m.toNat) / 2 ^ K = 1 := by
      have h3 : 0 < 2 ^ K := Nat.pow_pos (by decide)
      have h4 : (l.toNat ^^^ m.toNat) < 2 ^ K * 2 := by rw [← Nat.pow_succ]; exact hlen.1
      refine Nat.div_eq_of_lt_le ?_ ?_
      · omega
      · omega
    rw [h2]; rfl
  rw [Nat.testBit_xor] at htop
  have hdiv : l.toNat / 2 ^ (K + 1) = m.toNat / 2 ^ (K + 1) := by
    rw [← Nat.shiftRight_eq_div_pow, ← Nat.shiftRight_eq_div_pow]
    refine Nat.eq_of_testBit_eq fun j => ?_
    rw [Nat.testBit_shiftRight, Nat.testBit_shiftRight]
    exact hbits (K + 1 + j) (by omega)
  have hP : 0 < 2 ^ K := Nat.pow_pos (by decide)
  have hd2 : l.toNat / 2 ^ K / 2 = m.toNat / 2 ^ K / 2 := by
    rw [Nat.div_div_eq_div_mul, Nat.div_div_eq_div_mul, ← Nat.pow_succ]; exact hdiv
  have hle : l.toNat / 2 ^ K ≤ m.toNat / 2 ^ K := Nat.div_le_div_right h
  have hne2 : l.toNat.testBit K ≠ m.toNat.testBit K := fun e1 => by rw [e1] at htop; simp at htop
  rw [Nat.testBit_eq_decide_div_mod_eq, Nat.testBit_eq_decide_div_mod_eq] at hne2
  have hq : l.toNat / 2 ^ K + 1 = m.toNat / 2 ^ K ∧ l.toNat / 2 ^ K % 2 = 0 := by
    have a : l.toNat / 2 ^ K % 2 ≠ m.toNat / 2 ^ K % 2 := fun e1 => hne2 (by rw [e1])
    omega
  generalize hq1 : m.toNat / 2 ^ K = q at hq hle hd2
  generalize hq0 : l.toNat / 2 ^ K = q0 at hq hle hd2
  have hp1 : q * 2 ^ K ≤ m.toNat := by rw [← hq1]; exact Nat.div_mul_le_self _ _
  have hp2 : l.toNat < q * 2 ^ K := by
    have := Nat.lt_succ_of_le (Nat.le_refl (l.toNat / 2 ^ K))
    rw [Nat.div_lt_iff_lt_mul hP, hq0] at this
    rw [← hq.1]; exact this
  have hm64 := m.isLt
  by_cases hiK : i = K
  · subst hiK
    refine ⟨m, l, h, Nat.le_refl _, Nat.le_refl _, h, ?_, ?_⟩
    · rw [bt_nat, Nat.testBit_eq_decide_div_mod_eq, hq1]
      exact decide_eq_true (by omega)
    · rw [bt_nat, Nat.testBit_eq_decide_div_mod_eq, hq0]
      exact decide_eq_false (by omega)
  · have hlt : i < K := by omega
    have e1 : (BitVec.ofNat 64 (q * 2 ^ K)).toNat = q * 2 ^ K := by rw [BitVec.toNat_ofNat]; exact Nat.mod_eq_of_lt (by omega)
    have e2 : (BitVec.ofNat 64 (q * 2 ^ K - 1)).toNat = q * 2 ^ K - 1 := by rw [BitVec.toNat_ofNat]; exact Nat.mod_eq_of_lt (by omega)
    refine ⟨BitVec.ofNat 64 (q * 2 ^ K - 1), BitVec.ofNat 64 (q * 2 ^ K), by omega, by omega, by omega, by omega, ?_, ?_⟩
    · rw [bt_nat, e2]
      have e3 : q * 2 ^ K - 1 = 2 ^ K * q0 + (2 ^ K - 1) := by
        rw [← hq.1, Nat.add_mul, Nat.mul_comm]; omega
      rw [e3, Nat.testBit_two_pow_mul_add _ (by omega), if_pos hlt, Nat.testBit_two_pow_sub_one]
      exact decide_eq_true hlt
    · rw [bt_nat, e1, Nat.mul_comm, Nat.testBit_two_pow_mul]
      simp; omega

/-- A range within another one. -/
theorem range_in {l m l' m' : BitVec 64} (h : l.toNat ≤ m.toNat) (h1 : l'.toNat ≤ l.toNat) (h2 : m.toNat ≤ m'.toNat) : Tn.inn (range l m) (range l' m') = true := by
  rw [inn_iff (range_ok _ _) (range_ok _ _)]
  intro i hi hm
  have key : ∀ n : BitVec 64, l.toNat ≤ n.toNat → n.toNat ≤ m.toNat → bt n i = bt (range l' m').v i := fun n a b => mem_range (l := l') (m := m') (by omega) (by omega) i hi hm
  cases hb : bt (range l m).m i with
  | false =>
    refine ⟨rfl, ?_⟩
    rw [← mem_range (l := l) (m := m) (n := l) (Nat.le_refl _) h i hi hb]
    exact key l (Nat.le_refl _) h
  | true =>
    obtain ⟨n, n', a1, a2, a3, a4, a5, a6⟩ := range_tight h hi hb
    have b1 := key n a1 a2
    have b2 := key n' a3 a4
    rw [a5] at b1; rw [a6] at b2
    rw [← b1] at b2; cases b2
end Go.Sc
