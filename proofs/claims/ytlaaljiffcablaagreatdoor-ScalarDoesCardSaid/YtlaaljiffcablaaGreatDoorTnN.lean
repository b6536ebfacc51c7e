/-
  Noughts at the end; products, whole.
-/
import Derived.Test.YtlaaljiffcablaaGreatDoorTnM
namespace Go.Tn
open Go Go.Sy

theorem bt_nat (x : BitVec 64) (i : Nat) : bt x i = x.toNat.testBit i := (BitVec.testBit_toNat x).symm
theorem ctz_low {x : BitVec 64} {i : Nat} (h : (i : Int) < ctz64 x) : bt x i = false := by
  rw [bt_nat]
  unfold ctz64 Lib.ctz at h
  by_cases h0 : x.toNat = 0
  · rw [h0]; exact Nat.zero_testBit i
  · rw [if_neg h0] at h
    obtain ⟨m, hm, _⟩ := Lib.ctzFrom_spec 64 x.toNat (by omega) x.isLt
    rw [hm, Nat.testBit_two_pow_mul]
    have : ¬ i ≥ Lib.ctzFrom 64 x.toNat := by omega
    simp [this]
theorem ctz_at {x : BitVec 64} (h : ctz64 x < 64) : bt x (ctz64 x).toNat = true := by
  rw [bt_nat]
  unfold ctz64 Lib.ctz at h ⊢
  by_cases h0 : x.toNat = 0
  · rw [if_pos h0] at h; omega
  · rw [if_neg h0] at h ⊢
    obtain ⟨m, hm, _⟩ := Lib.ctzFrom_spec 64 x.toNat (by omega) x.isLt
    have e : ((Lib.ctzFrom 64 x.toNat : Nat) : Int).toNat = Lib.ctzFrom 64 x.toNat := by omega
    rw [e]
    generalize Lib.ctzFrom 64 x.toNat = k at hm
    rw [hm, Nat.testBit_two_pow_mul]
    simp [Nat.testBit_zero]
theorem rem2 (x : BitVec 64) (i : Nat) : (x >>> i % BitVec.ofInt 64 2 == BitVec.ofInt 64 0) = !bt x i := by
  have h1 : (x >>> i % BitVec.ofInt 64 2).toNat = (bt x i).toNat := by
    rw [BitVec.toNat_umod, BitVec.toNat_ushiftRight, bt_nat, Nat.shiftRight_eq_div_pow, Nat.testBit_eq_decide_div_mod_eq]
    have : (BitVec.ofInt 64 2).toNat = 2 := by decide
    rw [this]
    by_cases h : x.toNat / 2 ^ i % 2 = 1
    · rw [decide_eq_true h, h]; rfl
    · rw [decide_eq_false h]
      show _ = 0
      omega
  cases hb : bt x i with
  | true =>
    rw [hb] at h1
    have : x >>> i % BitVec.ofInt 64 2 ≠ BitVec.ofInt 64 0 := fun e => by
      rw [e] at h1; revert h1; decide
    rw [beq_eq_false_iff_ne.2 this]; rfl
  | false =>
    rw [hb] at h1
    have : x >>> i % BitVec.ofInt 64 2 = BitVec.ofInt 64 0 := BitVec.eq_of_toNat_eq (by rw [h1]; decide)
    rw [this]; decide

theorem dvd_low {x : BitVec 64} {k : Nat} (h : ∀ i, i < k → bt x i = false) : 2 ^ k ∣ x.toNat := by
  apply Nat.dvd_of_mod_eq_zero
  apply Nat.eq_of_testBit_eq
  intro i
  rw [Nat.testBit_mod_two_pow, Nat.zero_testBit]
  by_cases hi : i < k
  · have := h i hi
    rw [bt_nat] at this
    simp [this]
  · simp [hi]
theorem low_dvd {x : BitVec 64} {k : Nat} (h : 2 ^ k ∣ x.toNat) {i : Nat} (hi : i < k) : bt x i = false := by
  obtain ⟨c, hc⟩ := h
  rw [bt_nat, hc, Nat.testBit_two_pow_mul]
  have : ¬ i ≥ k := by omega
  simp [this]

theorem mul_low {x y : BitVec 64} {k l : Nat} (hx : 2 ^ k ∣ x.toNat) (hy : 2 ^ l ∣ y.toNat) {i : Nat} (hi : i < k + l) (h64 : i < 64) : bt (x * y) i = false := by
  have h1 : 2 ^ (k + l) ∣ x.toNat * y.toNat := by rw [Nat.pow_add]; exact Nat.mul_dvd_mul hx hy
  have h2 : 2 ^ (i + 1) ∣ x.toNat * y.toNat := Nat.dvd_trans (Nat.pow_dvd_pow 2 (by omega)) h1
  have h3 : 2 ^ (i + 1) ∣ 2 ^ 64 := Nat.pow_dvd_pow 2 (by omega)
  refine low_dvd (k := i + 1) ?_ (by omega)
  rw [BitVec.toNat_mul]
  exact (Nat.dvd_mod_iff h3).2 h2

theorem mem_low {a : Tn} {x : BitVec 64} (hx : Mem a x) : 2 ^ (noughts a).toNat ∣ x.toNat := by
  refine dvd_low fun i hi => ?_
  have hr := noughts_range a
  have h := ctz_low (x := a.v ||| a.m) (i := i) (by unfold noughts at hi hr; omega)
  rw [bt_or] at h
  exact (by decide : ∀ v m x : Bool, (v || m) = false → (m = false → x = v) → x = false) _ _ _ h (hx i (by omega))

theorem prod_low {a b : Tn} {x y : BitVec 64} (hx : Mem a x) (hy : Mem b y) {i : Nat} (hi : (i : Int) < mulLow a b) (h64 : i < 64) : bt (x * y) i = false := by
  rw [mulLow_eq] at hi
  have := noughts_range a; have := noughts_range b
  exact mul_low (mem_low hx) (mem_low hy) (by omega) h64

theorem bt_cut (x : BitVec 64) (l : Nat) {i : Nat} (hi : i < 64) : bt (x >>> l <<< l) i = (!decide (i < l) && bt x i) := by
  show (x >>> l <<< l).getLsbD i = _
  rw [BitVec.getLsbD_shiftLeft, BitVec.getLsbD_ushiftRight, decide_eq_true hi, Bool.true_and]
  by_cases h : i < l
  · simp [h]
  · have : l + (i - l) = i := by omega
    rw [this]; rfl

theorem mul'_ok {a b : Tn} (ha : ok a = true) (hb : ok b = true) : ok (mul' a b) = true := by
  unfold mul'
  cases decide (64 ≤ mulLow a b) with
  | true =>
    show ok zeroT = true
    decide +kernel
  | false =>
    have h := (mulOut_mem ha hb (mem_v a) (mem_v b)).1
    refine ok_of fun i hi => ?_
    show (bt ((mulOut a b).v >>> _ <<< _) i && bt ((mulOut a b).m >>> _ <<< _) i) = false
    rw [bt_cut _ _ hi, bt_cut _ _ hi]
    exact (by decide : ∀ p v m : Bool, (v && m) = false → ((p && v) && (p && m)) = false) _ _ _ (ok_bit h i)
theorem mul'_mem {a b : Tn} (ha : ok a = true) (hb : ok b = true) {x y : BitVec 64} (hx : Mem a x) (hy : Mem b y) : Mem (mul' a b) (x * y) := by
  unfold mul'
  cases hl : decide (64 ≤ mulLow a b) with
  | true =>
    have hl := of_decide_eq_true hl
    intro i hi _
    show bt (x * y) i = bt (BitVec.ofInt 64 0) i
    rw [bt_zero]
    exact prod_low hx hy (by omega) hi
  | false =>
    have h := (mulOut_mem ha hb hx hy).2
    intro i hi hm
    show bt (x * y) i = bt ((mulOut a b).v >>> _ <<< _) i
    have hm : bt ((mulOut a b).m >>> (mulLow a b).toNat <<< (mulLow a b).toNat) i = false := hm
    rw [bt_cut _ _ hi] at hm ⊢
    by_cases hil : i < (mulLow a b).toNat
    · rw [decide_eq_true hil]
      exact prod_low hx hy (by omega) hi
    · rw [decide_eq_false hil] at hm ⊢
      simp only [Bool.not_false, Bool.true_and] at hm ⊢
      exact h i hi hm
theorem mul_ok (a b : Tn) : ok (mul a b) = true := mul'_ok (ok_right' a) (ok_right' b)
theorem mul_eq {a b : Tn} (ha : ok a = true) (hb : ok b = true) : mul a b = mul' a b := by unfold mul; rw [right_ok ha, right_ok hb]

/-- Constants. -/
theorem mloop_const : ∀ (n : Nat) (A B : Tn), ok A = true → ok B = true → A.m = BitVec.ofInt 64 0 → B.m = BitVec.ofInt 64 0 → (mloop n (A, B, zeroT)).2.2 = zeroT
  | 0, _, _, _, _, _, _ => rfl
  | n + 1, A, B, hA, hB, hAm, hBm => by
    unfold mloop
    cases (A.v ||| A.m == BitVec.ofInt 64 0) with
    | true => rfl
    | false =>
      have e : mstep (A, B, zeroT) = (rsh A 1, lsh B 1, zeroT) := by
        unfold mstep
        simp only [hAm, hBm]
        have e0 : (BitVec.ofInt 64 0 &&& BitVec.ofInt 64 1 == BitVec.ofInt 64 0) = true := by decide
        have e1 : add zeroT ⟨BitVec.ofInt 64 0, BitVec.ofInt 64 0⟩ = zeroT := by
          show add zeroT zeroT = zeroT
          have hz : ok zeroT = true := by decide +kernel
          unfold add; rw [right_ok hz]; unfold add' of zeroT; congr 1 <;> decide
        rw [e0, e1]
        cases (A.v &&& BitVec.ofInt 64 1 == BitVec.ofInt 64 0) <;> rfl
      show (mloop n (mstep (A, B, zeroT))).2.2 = zeroT
      rw [e]
      refine mloop_const n _ _ (rsh_ok A) (lsh_ok hB) ?_ ?_
      · unfold rsh rsh'; rw [times1, right_ok hA, hAm]; show BitVec.ofInt 64 0 >>> 1 = _; decide
      · unfold lsh lsh'; rw [times1, right_ok hB, hBm]; show BitVec.ofInt 64 0 <<< 1 = _; decide
theorem mulOut_const {a b : Tn} (ha : ok a = true) (hb : ok b = true) (h1 : a.m = BitVec.ofInt 64 0) (h2 : b.m = BitVec.ofInt 64 0) : mulOut a b = ⟨a.v * b.v, BitVec.ofInt 64 0⟩ := by
  unfold mulOut
  rw [mloop_const 65 a b ha hb h1 h2]
  have hz : ok zeroT = true := by decide +kernel
  unfold add
  rw [right_ok (const_ok _), right_ok hz]
  unfold add' of const zeroT
  have e : (BitVec.ofInt 64 0 : BitVec 64) = 0#64 := rfl
  have e2 : ∀ p : BitVec 64, p + 0#64 + (0#64 + 0#64) ^^^ (p + 0#64) ||| 0#64 ||| 0#64 = 0#64 := fun p => by simp
  simp only [e, e2]
  have e3 : ~~~(0#64) = full := by decide
  rw [e3, BitVec.add_zero]
  congr 1
  refine bext fun i hi => ?_
  have : bt full i = true := by
    have h4 : full = ~~~(0#64) := by decide
    have h0 : bt (0#64) i = false := bt_zero i
    rw [h4, bt_not hi, h0]; rfl
  rw [bt_and, this, Bool.and_true]
theorem mul_const {a b : Tn} (ha : ok a = true) (hb : ok b = true) (h1 : a.m = BitVec.ofInt 64 0) (h2 : b.m = BitVec.ofInt 64 0) : mul a b = ⟨a.v * b.v, BitVec.ofInt 64 0⟩ := by
  rw [mul_eq ha hb]
  have key : ∀ i : Nat, i < 64 → (i : Int) < mulLow a b → bt (a.v * b.v) i = false := fun i hi h => prod_low (mem_v a) (mem_v b) h hi
  unfold mul'
  rw [mulOut_const ha hb h1 h2]
  cases hl : decide (64 ≤ mulLow a b) with
  | true =>
    have hl := of_decide_eq_true hl
    have : a.v * b.v = BitVec.ofInt 64 0 := bext fun i hi => by rw [bt_zero]; exact key i hi (by omega)
    rw [this]; rfl
  | false =>
    show (⟨_, _⟩ : Tn) = _
    congr 1
    · refine bext fun i hi => ?_
      rw [bt_cut _ _ hi]
      by_cases h : i < (mulLow a b).toNat
      · rw [decide_eq_true h, key i hi (by omega)]; rfl
      · rw [decide_eq_false h]; rfl
    · refine bext fun i hi => ?_
      rw [bt_cut _ _ hi, bt_zero]; simp

theorem most_low {a b : Tn} (ha : ok a = true) (hb : ok b = true) {i : Nat} (hi : i < 64) (h : (i : Int) < mulLow a b) : bt (most (mul a b)) i = false := by
  unfold most
  rw [right_ok (mul_ok a b), bt_or, mul_eq ha hb]
  unfold mul'
  cases hl : decide (64 ≤ mulLow a b) with
  | true =>
    show (bt (BitVec.ofInt 64 0) i || bt (BitVec.ofInt 64 0) i) = false
    rw [bt_zero]; rfl
  | false =>
    show (bt ((mulOut a b).v >>> _ <<< _) i || bt ((mulOut a b).m >>> _ <<< _) i) = false
    rw [bt_cut _ _ hi, bt_cut _ _ hi, decide_eq_true (by omega)]
    rfl

def lawN (a b : Tn) : Int := if 64 < mulLow a b then 64 else mulLow a b
theorem lawN_range (a b : Tn) : 0 ≤ lawN a b ∧ lawN a b ≤ 64 := by
  have := mulLow_nonneg a b
  unfold lawN; split <;> omega
theorem rem_low {a b : Tn} (ha : ok a = true) (hb : ok b = true) (h : lawN a b < 64) : most (mul a b) % (BitVec.ofInt 64 1 <<< (lawN a b).toNat) = BitVec.ofInt 64 0 := by
  have hr := lawN_range a b
  have hd : 2 ^ (lawN a b).toNat ∣ (most (mul a b)).toNat := dvd_low fun i hi => most_low ha hb (by omega) (by unfold lawN at h hi; split at h <;> rename_i hc <;> simp only [hc, if_false, if_true] at hi <;> omega)
  apply BitVec.eq_of_toNat_eq
  have e : (BitVec.ofInt 64 1 <<< (lawN a b).toNat).toNat = 2 ^ (lawN a b).toNat := by
    rw [BitVec.toNat_shiftLeft, Nat.shiftLeft_eq]
    have h1 : (BitVec.ofInt 64 1).toNat = 1 := by decide
    rw [h1, Nat.one_mul]
    exact Nat.mod_eq_of_lt (Nat.pow_lt_pow_right (by decide) (by omega))
  rw [BitVec.toNat_umod, e, Nat.mod_eq_zero_of_dvd hd]
  decide
theorem most_zero {a b : Tn} (ha : ok a = true) (hb : ok b = true) (h : ¬ lawN a b < 64) : most (mul a b) = BitVec.ofInt 64 0 := bext fun i hi => by
  rw [bt_zero]
  exact most_low ha hb hi (by unfold lawN at h; split at h <;> omega)
theorem shift_ne {a b : Tn} (h : lawN a b < 64) : (BitVec.ofInt 64 1 <<< (lawN a b).toNat == 0#64) = false := by
  have hr := lawN_range a b
  have : bt (BitVec.ofInt 64 1 <<< (lawN a b).toNat) (lawN a b).toNat = true := by
    show bt (1#64 <<< (lawN a b).toNat) _ = true
    rw [bt_one (by omega)]; simp
  cases hb : (BitVec.ofInt 64 1 <<< (lawN a b).toNat == 0#64) with
  | false => rfl
  | true =>
    rw [eq_of_beq hb] at this
    have h0 : bt (0#64) (lawN a b).toNat = false := bt_zero _
    rw [h0] at this; cases this
end Go.Tn
