/-
  Products of tnums.
-/
import Derived.Test.YtlaaljiffcablaaGreatDoorTnQ
namespace Go.Tn
open Go Go.Sy

def mstep (x : Tn × Tn × Tn) : Tn × Tn × Tn := (rsh x.1 1, lsh x.2.1 1,
  bif !(x.1.m &&& BitVec.ofInt 64 1 == BitVec.ofInt 64 0) then add x.2.2 ⟨BitVec.ofInt 64 0, x.2.1.v ||| x.2.1.m⟩
  else bif !(x.1.v &&& BitVec.ofInt 64 1 == BitVec.ofInt 64 0) then add x.2.2 ⟨BitVec.ofInt 64 0, x.2.1.m⟩ else x.2.2)
def mloop : Nat → Tn × Tn × Tn → Tn × Tn × Tn
  | 0, x => x
  | n + 1, x => bif (x.1.v ||| x.1.m == BitVec.ofInt 64 0) then x else mloop n (mstep x)
def zeroT : Tn := ⟨BitVec.ofInt 64 0, BitVec.ofInt 64 0⟩
def mulLow (a b : Tn) : Int := IntKind.i64.wrap (noughts a + noughts b)
def mulOut (a b : Tn) : Tn := add (const (a.v * b.v)) (mloop 65 (a, b, zeroT)).2.2
def mul' (a b : Tn) : Tn := bif decide (64 ≤ mulLow a b) then zeroT else
  ⟨(mulOut a b).v >>> (mulLow a b).toNat <<< (mulLow a b).toNat, (mulOut a b).m >>> (mulLow a b).toNat <<< (mulLow a b).toNat⟩
def mul (a b : Tn) : Tn := mul' (right a) (right b)

theorem times1 : (times 1 64).toNat = 1 := by decide +kernel

theorem small_rsh (a : Tn) (k : Nat) (h : (right a).v.toNat < 2 ^ (k + 1) ∧ (right a).m.toNat < 2 ^ (k + 1)) : (rsh a 1).v.toNat < 2 ^ k ∧ (rsh a 1).m.toNat < 2 ^ k := by
  unfold rsh rsh'
  rw [times1]
  simp only [BitVec.toNat_ushiftRight, Nat.shiftRight_eq_div_pow]
  rw [Nat.pow_succ] at h
  omega
theorem rsh_ok (a : Tn) : ok (rsh a 1) = true := by
  unfold rsh
  have := (rsh_op 1).good (right a) (ok_right' a)
  unfold rsh at this
  rwa [right_ok (ok_right' a)] at this
theorem or_zero {x y : BitVec 64} (hx : x.toNat < 1) (hy : y.toNat < 1) : x ||| y = BitVec.ofInt 64 0 := by
  have h1 : x = 0#64 := BitVec.eq_of_toNat_eq (by simp; omega)
  have h2 : y = 0#64 := BitVec.eq_of_toNat_eq (by simp; omega)
  rw [h1, h2]; decide

theorem mloop_ends' : ∀ (k : Nat) (x : Tn × Tn × Tn), ok x.1 = true → x.1.v.toNat < 2 ^ k ∧ x.1.m.toNat < 2 ^ k → (mloop k x).1.v ||| (mloop k x).1.m = BitVec.ofInt 64 0
  | 0, x, _, h => or_zero h.1 h.2
  | k + 1, x, ho, h => by
    unfold mloop
    cases hz : (x.1.v ||| x.1.m == BitVec.ofInt 64 0) with
    | true => simp only [cond_true]; exact eq_of_beq hz
    | false =>
      simp only [cond_false]
      exact mloop_ends' k (mstep x) (rsh_ok _) (small_rsh x.1 k (by rw [right_ok ho]; exact h))
theorem mloop_ends (x : Tn × Tn × Tn) : (mloop 65 x).1.v ||| (mloop 65 x).1.m = BitVec.ofInt 64 0 := by
  show (mloop (64 + 1) x).1.v ||| (mloop (64 + 1) x).1.m = BitVec.ofInt 64 0
  unfold mloop
  cases hz : (x.1.v ||| x.1.m == BitVec.ofInt 64 0) with
  | true => simp only [cond_true]; exact eq_of_beq hz
  | false =>
    simp only [cond_false]
    refine mloop_ends' 64 (mstep x) (rsh_ok _) ⟨?_, ?_⟩
    · exact (rsh x.1 1).v.isLt
    · exact (rsh x.1 1).m.isLt

theorem noughts_range (a : Tn) : 0 ≤ noughts a ∧ noughts a ≤ 64 := by
  unfold noughts ctz64
  refine ⟨Int.natCast_nonneg _, ?_⟩
  by_cases h : (a.v ||| a.m).toNat = 0
  · rw [h]; decide
  · have := (Lib.lowest_bit 64 _ h (a.v ||| a.m).isLt).2
    omega
theorem mulLow_eq (a b : Tn) : mulLow a b = noughts a + noughts b := by
  have := noughts_range a; have := noughts_range b
  unfold mulLow
  exact wrap_i64_small (by omega) (by omega)
theorem mulLow_nonneg (a b : Tn) : 0 ≤ mulLow a b := by
  have := noughts_range a; have := noughts_range b
  rw [mulLow_eq]; omega

/-! ### No product is lost -/
theorem bt_1 {i : Nat} (hi : i < 64) : bt (BitVec.ofInt 64 1) i = decide (i = 0) := by
  have : BitVec.ofInt 64 1 = 1#64 <<< 0 := by decide
  rw [this]; exact bt_one hi
theorem and_1 (x : BitVec 64) : x &&& BitVec.ofInt 64 1 = bif bt x 0 then 1#64 else 0#64 := by
  refine bext fun i hi => ?_
  rw [bt_and, bt_1 hi]
  have h1 : bt (1#64) i = decide (i = 0) := bt_1 hi
  have h0 : bt (0#64) i = false := bt_zero i
  by_cases h : i = 0
  · subst h
    cases bt x 0 <;> simp [h1, h0]
  · cases bt x 0 <;> simp [h1, h0, h]
theorem and_1_zero (x : BitVec 64) : (x &&& BitVec.ofInt 64 1 == BitVec.ofInt 64 0) = !bt x 0 := by
  rw [and_1]
  cases bt x 0 <;> decide
theorem half (x : BitVec 64) : x = (x >>> 1) * 2#64 + (x &&& BitVec.ofInt 64 1) := by
  apply BitVec.eq_of_toNat_eq
  have h1 : (x &&& BitVec.ofInt 64 1).toNat = x.toNat % 2 := by
    rw [BitVec.toNat_and]
    show x.toNat &&& 1 = _
    exact Nat.and_one_is_mod _
  rw [BitVec.toNat_add, BitVec.toNat_mul, h1, BitVec.toNat_ushiftRight, Nat.shiftRight_eq_div_pow]
  have : (2#64).toNat = 2 := rfl
  rw [this]
  have := x.isLt
  omega
theorem twice (y : BitVec 64) : y <<< 1 = y * 2#64 := by
  apply BitVec.eq_of_toNat_eq
  rw [BitVec.toNat_shiftLeft, BitVec.toNat_mul, Nat.shiftLeft_eq]
  rfl
theorem mul_half (x y : BitVec 64) : x * y = (x >>> 1) * (y <<< 1) + (x &&& BitVec.ofInt 64 1) * y := by
  have h : x * y = ((x >>> 1) * 2#64 + (x &&& BitVec.ofInt 64 1)) * y := by rw [← half]
  rw [h, twice, BitVec.add_mul]
  congr 1
  ac_rfl

theorem mem_rsh {a : Tn} (ha : ok a = true) {x : BitVec 64} (h : Mem a x) : Mem (rsh a 1) (x >>> 1) := by
  have := (rsh_op 1).sound a ha x h
  rwa [times1] at this
theorem mem_lsh {a : Tn} (ha : ok a = true) {x : BitVec 64} (h : Mem a x) : Mem (lsh a 1) (x <<< 1) := by
  have := (lsh_op 1).sound a ha x h
  rwa [times1] at this
theorem lsh_ok {a : Tn} (ha : ok a = true) : ok (lsh a 1) = true := (lsh_op 1).good a ha
theorem rsh_v {a : Tn} (ha : ok a = true) : (rsh a 1).v = a.v >>> 1 := by
  unfold rsh rsh'; rw [times1, right_ok ha]
theorem lsh_v {a : Tn} (ha : ok a = true) : (lsh a 1).v = a.v <<< 1 := by
  unfold lsh lsh'; rw [times1, right_ok ha]

theorem ok_z (m : BitVec 64) : ok ⟨BitVec.ofInt 64 0, m⟩ = true := ok_of fun i _ => by rw [bt_zero]; rfl
theorem mem_add {a b : Tn} (ha : ok a = true) (hb : ok b = true) {x y : BitVec 64} (hx : Mem a x) (hy : Mem b y) : Mem (add a b) (x + y) := add_op.sound a b ha hb x y hx hy
theorem add_ok {a b : Tn} (ha : ok a = true) (hb : ok b = true) : ok (add a b) = true := add_op.good a b ha hb

/-- What one turn adds. -/
theorem turn {A B U : Tn} (hA : ok A = true) (hB : ok B = true) (hU : ok U = true) {x y w : BitVec 64} (hx : Mem A x) (hy : Mem B y) (hw : Mem U w) :
    ok (mstep (A, B, U)).2.2 = true ∧ ∃ t, Mem (mstep (A, B, U)).2.2 (w + t) ∧ (x &&& BitVec.ofInt 64 1) * y = t + (A.v &&& BitVec.ofInt 64 1) * B.v := by
  show ok (bif !(A.m &&& BitVec.ofInt 64 1 == BitVec.ofInt 64 0) then add U ⟨BitVec.ofInt 64 0, B.v ||| B.m⟩ else bif !(A.v &&& BitVec.ofInt 64 1 == BitVec.ofInt 64 0) then add U ⟨BitVec.ofInt 64 0, B.m⟩ else U) = true ∧
    ∃ t, Mem (bif !(A.m &&& BitVec.ofInt 64 1 == BitVec.ofInt 64 0) then add U ⟨BitVec.ofInt 64 0, B.v ||| B.m⟩ else bif !(A.v &&& BitVec.ofInt 64 1 == BitVec.ofInt 64 0) then add U ⟨BitVec.ofInt 64 0, B.m⟩ else U) (w + t) ∧ _
  rw [and_1_zero, and_1_zero, and_1, and_1, Bool.not_not, Bool.not_not]
  cases hm : bt A.m 0 with
  | true =>
    have hv : bt A.v 0 = false := v_turn hA hm
    refine ⟨add_ok hU (ok_z _), (bif bt x 0 then 1#64 else 0#64) * y, mem_add hU (ok_z _) hw ?_, ?_⟩
    · intro i hi hmi
      have hmi : bt (B.v ||| B.m) i = false := hmi
      show _ = bt (BitVec.ofInt 64 0) i
      rw [bt_or] at hmi
      rw [bt_zero]
      have h0 : bt (0#64) i = false := bt_zero i
      cases bt x 0 with
      | false => rw [cond_false, BitVec.zero_mul]; exact h0
      | true =>
        rw [cond_true, BitVec.one_mul]
        exact (by decide : ∀ v m y : Bool, (v || m) = false → (m = false → y = v) → y = false) _ _ _ hmi (hy i hi)
    · rw [hv]; simp
  | false =>
    have hxv := hx 0 (by decide) hm
    cases hv : bt A.v 0 with
    | true =>
      rw [hv] at hxv
      rw [hxv]
      refine ⟨add_ok hU (ok_z _), y &&& B.m, mem_add hU (ok_z _) hw ?_, ?_⟩
      · intro i hi hmi
        have hmi : bt B.m i = false := hmi
        show _ = bt (BitVec.ofInt 64 0) i
        rw [bt_zero, bt_and, hmi]; simp
      · simp only [cond_true, BitVec.one_mul]
        have hz : (y &&& B.m) &&& B.v = 0#64 := bext fun i hi => by
          have h0 : bt (0#64) i = false := bt_zero i
          rw [bt_and, bt_and, h0]
          exact (by decide : ∀ v m y : Bool, (v && m) = false → ((y && m) && v) = false) _ _ _ (ok_bit hB i)
        rw [BitVec.add_eq_or_of_and_eq_zero _ _ hz]
        refine bext fun i hi => ?_
        rw [bt_or, bt_and]
        exact (by decide : ∀ v m y : Bool, (m = false → y = v) → (v && m) = false → y = ((y && m) || v)) _ _ _ (hy i hi) (ok_bit hB i)
    | false =>
      rw [hv] at hxv
      rw [hxv]
      refine ⟨hU, 0#64, by simpa using hw, by simp⟩

theorem mloop_mem (p : BitVec 64) (q : BitVec 64) : ∀ (n : Nat) (A B U : Tn), ok A = true → ok B = true → ok U = true → (mloop n (A, B, U)).1.v ||| (mloop n (A, B, U)).1.m = BitVec.ofInt 64 0 → ∀ x y w, Mem A x → Mem B y → Mem U w → p + A.v * B.v = q + w + x * y →
    ok (mloop n (A, B, U)).2.2 = true ∧ ∃ w', Mem (mloop n (A, B, U)).2.2 w' ∧ p = q + w'
  | 0, A, B, U, hA, hB, hU, hz, x, y, w, hx, hy, hw, he => by
    have hz : A.v ||| A.m = BitVec.ofInt 64 0 := hz
    refine ⟨hU, w, hw, ?_⟩
    have hv : A.v = 0#64 := bext fun i hi => by
      have := bt_congr hz i
      rw [bt_or, bt_zero] at this
      have h0 : bt (0#64) i = false := bt_zero i
      rw [h0]; exact (by decide : ∀ v m : Bool, (v || m) = false → v = false) _ _ this
    have hx0 : x = 0#64 := bext fun i hi => by
      have := bt_congr hz i
      rw [bt_or, bt_zero] at this
      have h0 : bt (0#64) i = false := bt_zero i
      rw [h0]; exact (by decide : ∀ v m x : Bool, (v || m) = false → (m = false → x = v) → x = false) _ _ _ this (hx i hi)
    rw [hv, hx0] at he
    simpa using he
  | n + 1, A, B, U, hA, hB, hU, hz, x, y, w, hx, hy, hw, he => by
    unfold mloop at hz ⊢
    cases hc : (A.v ||| A.m == BitVec.ofInt 64 0) with
    | true =>
      simp only [hc, cond_true] at hz ⊢
      exact mloop_mem p q 0 A B U hA hB hU hz x y w hx hy hw he
    | false =>
      simp only [hc, cond_false] at hz ⊢
      obtain ⟨ht, t, h1, h2⟩ := turn hA hB hU hx hy hw
      refine mloop_mem p q n (rsh A 1) (lsh B 1) _ (rsh_ok A) (lsh_ok hB) ht hz (x >>> 1) (y <<< 1) (w + t) (mem_rsh hA hx) (mem_lsh hB hy) h1 ?_
      rw [rsh_v hA, lsh_v hB]
      rw [mul_half A.v B.v, mul_half x y, h2] at he
      have e1 : p + (A.v >>> 1 * B.v <<< 1 + (A.v &&& BitVec.ofInt 64 1) * B.v) = p + A.v >>> 1 * B.v <<< 1 + (A.v &&& BitVec.ofInt 64 1) * B.v := by ac_rfl
      have e2 : q + w + (x >>> 1 * y <<< 1 + (t + (A.v &&& BitVec.ofInt 64 1) * B.v)) = q + (w + t) + x >>> 1 * y <<< 1 + (A.v &&& BitVec.ofInt 64 1) * B.v := by ac_rfl
      rw [e1, e2] at he
      exact (BitVec.add_left_inj _).1 he

theorem const_ok (n : BitVec 64) : ok (const n) = true := ok_of fun i _ => by
  show (bt n i && bt (BitVec.ofInt 64 0) i) = false
  rw [bt_zero, Bool.and_false]
theorem mem_const (n : BitVec 64) : Mem (const n) n := mem_v _
theorem mulOut_mem {a b : Tn} (ha : ok a = true) (hb : ok b = true) {x y : BitVec 64} (hx : Mem a x) (hy : Mem b y) : ok (mulOut a b) = true ∧ Mem (mulOut a b) (x * y) := by
  have hz : ok zeroT = true := by decide +kernel
  obtain ⟨h1, w, h2, h3⟩ := mloop_mem (x * y) (a.v * b.v) 65 a b zeroT ha hb hz (mloop_ends _) x y (BitVec.ofInt 64 0) hx hy (mem_v zeroT) (by
    have : BitVec.ofInt 64 0 = 0#64 := rfl
    rw [this, BitVec.add_zero, BitVec.add_comm])
  unfold mulOut
  exact ⟨add_ok (const_ok _) h1, by rw [h3]; exact mem_add (const_ok _) h1 (mem_const _) h2⟩

end Go.Tn
