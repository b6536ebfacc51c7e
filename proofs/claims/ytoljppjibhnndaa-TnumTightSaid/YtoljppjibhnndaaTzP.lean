/-
  The tightest tnum of a range's numbers.
-/
import Derived.Test.YtoljppjibhnndaaTzS
import Derived.Lib.BitFns
namespace Go.Tn
open Go Go.Sy Go.Sz
set_option linter.unusedVariables false
set_option linter.unusedSimpArgs false
set_option linter.constructorNameAsVariable false

def head0 (l : U64s) : BitVec 64 := elt l 0
def orX (h : BitVec 64) (l : U64s) (m : BitVec 64) : BitVec 64 := l.foldl (fun m x => m ||| (x.1 ^^^ h)) m
def tightOf (l : U64s) : Tn := ⟨head0 l &&& ~~~orX (head0 l) (l.drop 1) (BitVec.ofInt 64 0), orX (head0 l) (l.drop 1) (BitVec.ofInt 64 0)⟩
def upTo (v : BitVec 64) : Nat → U64s
  | 0 => [(v, ())]
  | k + 1 => (v, ()) :: upTo (v + BitVec.ofInt 64 1) k

theorem bitLen_at (x : Nat) (h : x < 2 ^ 64) : x < 2 ^ Lib.bitLen x ∧ Lib.bitLen x ≤ 64 ∧ (x ≠ 0 → 2 ^ (Lib.bitLen x - 1) ≤ x) := by
  have key : ∀ (k x : Nat), x < 2 ^ k → k ≤ 64 → x < 2 ^ Lib.bitLen x ∧ Lib.bitLen x ≤ k ∧ (x ≠ 0 → 0 < Lib.bitLen x ∧ 2 ^ (Lib.bitLen x - 1) ≤ x) := by
    intro k
    induction k with
    | zero => intro x hx _; have : x = 0 := by omega
              subst this; decide
    | succ k ih =>
      intro x hx hk
      by_cases h0 : x = 0
      · subst h0; refine ⟨by decide, ?_, fun h => absurd rfl h⟩; show 0 ≤ k + 1; omega
      · have h64 : x < 2 ^ 64 := Nat.lt_of_lt_of_le hx (Nat.pow_le_pow_right (by decide) hk)
        rw [Lib.bitLen_half x h0 h64]
        obtain ⟨h1, h2, h3⟩ := ih (x / 2) (by rw [Nat.pow_succ] at hx; omega) (by omega)
        refine ⟨?_, by omega, fun _ => ⟨by omega, ?_⟩⟩
        · rw [Nat.add_comm, Nat.pow_succ]
          omega
        · rw [show 1 + Lib.bitLen (x / 2) - 1 = Lib.bitLen (x / 2) by omega]
          by_cases hz : x / 2 = 0
          · rw [hz]; show 2 ^ 0 ≤ x; omega
          · obtain ⟨h4, h5⟩ := h3 hz
            have e : Lib.bitLen (x / 2) = (Lib.bitLen (x / 2) - 1) + 1 := by omega
            rw [e, Nat.pow_succ]
            omega
  obtain ⟨h1, h2, h3⟩ := key 64 x h (by decide)
  exact ⟨h1, h2, fun h => (h3 h).2⟩

theorem testBit_div (x j : Nat) : x.testBit j = decide (x / 2 ^ j % 2 = 1) := Nat.testBit_eq_decide_div_mod_eq

theorem xor_lt_of_div {a b j : Nat} (h : a / 2 ^ j = b / 2 ^ j) : a ^^^ b < 2 ^ j := by
  refine Nat.lt_pow_two_of_testBit _ fun i hi => ?_
  rw [Nat.testBit_xor]
  have e : ∀ x : Nat, x.testBit i = (x / 2 ^ j).testBit (i - j) := fun x => by rw [Nat.testBit_div_two_pow]; congr 1; omega
  rw [e a, e b, h]; simp
theorem div_of_xor_lt {a b j : Nat} (h : a ^^^ b < 2 ^ j) : a / 2 ^ j = b / 2 ^ j := by
  refine Nat.eq_of_testBit_eq fun i => ?_
  rw [Nat.testBit_div_two_pow, Nat.testBit_div_two_pow]
  have := Nat.testBit_lt_two_pow (Nat.lt_of_lt_of_le h (Nat.pow_le_pow_right (by decide) (Nat.le_add_left j i)))
  rw [Nat.testBit_xor] at this
  exact (by decide : ∀ p q : Bool, (p ^^ q) = false → p = q) _ _ this

/-- A bit turns within a range exactly where it is below the highest one that differs at the ends. -/
theorem turns (a b j : Nat) (hab : a ≤ b) (hb : b < 2 ^ 64) : (∃ i, i ≤ b - a ∧ ((a + i) ^^^ a).testBit j = true) ↔ j < Lib.bitLen (a ^^^ b) := by
  have hx : a ^^^ b < 2 ^ 64 := Nat.xor_lt_two_pow (by omega) hb
  obtain ⟨h1, h2, h3⟩ := bitLen_at (a ^^^ b) hx
  have h0 : a ^^^ b = 0 → Lib.bitLen (a ^^^ b) = 0 := fun e => by rw [e]; rfl
  generalize Lib.bitLen (a ^^^ b) = L at h0 h1 h2 h3
  constructor
  · rintro ⟨i, hi, ht⟩
    have e := div_of_xor_lt h1
    have hm1 : a / 2 ^ L ≤ (a + i) / 2 ^ L := Nat.div_le_div_right (by omega)
    have hm2 : (a + i) / 2 ^ L ≤ b / 2 ^ L := Nat.div_le_div_right (by omega)
    have h4 := xor_lt_of_div (show (a + i) / 2 ^ L = a / 2 ^ L by omega)
    rcases Nat.lt_or_ge j L with h | h
    · exact h
    · rw [Nat.testBit_lt_two_pow (Nat.lt_of_lt_of_le h4 (Nat.pow_le_pow_right (by decide) h))] at ht
      cases ht
  · intro hj
    refine Classical.byContradiction fun hno => ?_
    have same : ∀ i, i ≤ b - a → (a + i).testBit j = a.testBit j := fun i hi => by
      cases hc : ((a + i) ^^^ a).testBit j with
      | true => exact absurd ⟨i, hi, hc⟩ hno
      | false =>
        rw [Nat.testBit_xor] at hc
        exact (by decide : ∀ p q : Bool, (p ^^ q) = false → p = q) _ _ hc
    have key : ∀ i, i ≤ b - a → (a + i) / 2 ^ j = a / 2 ^ j := by
      intro i
      induction i with
      | zero => intro _; rfl
      | succ i ih =>
        intro hi
        have h5 := ih (by omega)
        have h6 := same (i + 1) hi
        have h7 := same i (by omega)
        rw [testBit_div, testBit_div] at h6
        have hp : 0 < 2 ^ j := Nat.pow_pos (by decide)
        have h8 : (a + (i + 1)) / 2 ^ j = (a + i) / 2 ^ j ∨ (a + (i + 1)) / 2 ^ j = (a + i) / 2 ^ j + 1 := by
          have g1 : (a + i) / 2 ^ j ≤ (a + (i + 1)) / 2 ^ j := Nat.div_le_div_right (by omega)
          have g2 : (a + (i + 1)) / 2 ^ j ≤ (a + i + 2 ^ j) / 2 ^ j := Nat.div_le_div_right (by omega)
          rw [Nat.add_div_right _ hp] at g2
          omega
        rcases h8 with h8 | h8
        · omega
        · exfalso
          rw [h8, h5] at h6
          have : ((a / 2 ^ j + 1) % 2 = 1) ↔ (a / 2 ^ j % 2 = 1) := by
            constructor <;> intro h
            · exact of_decide_eq_true (by rw [← h6]; exact decide_eq_true h)
            · exact of_decide_eq_true (by rw [h6]; exact decide_eq_true h)
          omega
    have h9 := key (b - a) (Nat.le_refl _)
    rw [show a + (b - a) = b by omega] at h9
    have h10 := xor_lt_of_div h9.symm
    have hne : a ^^^ b ≠ 0 := fun e => by have := h0 e; omega
    have h11 := h3 hne
    have : 2 ^ j ≤ 2 ^ (L - 1) := Nat.pow_le_pow_right (by decide) (by omega)
    omega

theorem orX_bit (h : BitVec 64) (j : Nat) : ∀ (l : U64s) (m : BitVec 64), (orX h l m).getLsbD j = (m.getLsbD j || l.any fun x => (x.1 ^^^ h).getLsbD j)
  | [], m => by simp [orX]
  | x :: l, m => by
    have := orX_bit h j l (m ||| (x.1 ^^^ h))
    simp only [orX, List.foldl_cons] at this ⊢
    rw [this]
    simp [Bool.or_assoc]

theorem upTo_any (p : BitVec 64 → Bool) : ∀ (k : Nat) (v : BitVec 64), (upTo v k).any (fun x => p x.1) = true ↔ ∃ i, i ≤ k ∧ p (v + BitVec.ofNat 64 i) = true
  | 0, v => by
    simp only [upTo, List.any_cons, List.any_nil, Bool.or_false]
    constructor
    · intro h; exact ⟨0, Nat.le_refl _, by simpa using h⟩
    · rintro ⟨i, hi, h⟩
      have : i = 0 := by omega
      subst this; simpa using h
  | k + 1, v => by
    simp only [upTo, List.any_cons, Bool.or_eq_true]
    rw [upTo_any p k]
    have e : ∀ i : Nat, v + BitVec.ofInt 64 1 + BitVec.ofNat 64 i = v + BitVec.ofNat 64 (i + 1) := fun i => by
      have h1 : BitVec.ofInt 64 1 = BitVec.ofNat 64 1 := rfl
      rw [h1, BitVec.add_assoc, ← BitVec.ofNat_add, Nat.add_comm 1 i]
    constructor
    · rintro (h | ⟨i, hi, h⟩)
      · exact ⟨0, by omega, by simpa using h⟩
      · exact ⟨i + 1, by omega, by rw [← e]; exact h⟩
    · rintro ⟨i, hi, h⟩
      cases i with
      | zero => exact .inl (by simpa using h)
      | succ i => exact .inr ⟨i, by omega, by rw [e]; exact h⟩

theorem upTo_len : ∀ (k : Nat) (v : BitVec 64), (upTo v k).length = k + 1
  | 0, _ => rfl
  | k + 1, v => by simp [upTo, upTo_len k]

theorem upTo_head (k : Nat) (v : BitVec 64) : ∃ t, upTo v k = (v, ()) :: t := by
  cases k with
  | zero => exact ⟨_, rfl⟩
  | succ k => exact ⟨_, rfl⟩

theorem mask_bit {l : Nat} (hl : l ≤ 64) (i : Nat) : ((BitVec.ofInt 64 1 <<< l) - BitVec.ofInt 64 1).getLsbD i = decide (i < l) := by
  have e : ((BitVec.ofInt 64 1 <<< l) - BitVec.ofInt 64 1).toNat = 2 ^ l - 1 := by
    have h1 : (BitVec.ofInt 64 1).toNat = 1 := by decide
    rw [BitVec.toNat_sub, BitVec.toNat_shiftLeft, Nat.shiftLeft_eq, h1, Nat.one_mul]
    have h2 : 0 < 2 ^ l := Nat.pow_pos (by decide)
    by_cases h : l = 64
    · subst h; decide
    · have h3 : 2 ^ l < 2 ^ 64 := Nat.pow_lt_pow_right (by decide) (by omega)
      rw [Nat.mod_eq_of_lt h3]
      omega
  rw [← BitVec.testBit_toNat, e, Nat.testBit_two_pow_sub_one]

theorem range_tight (a b : BitVec 64) (h : BitVec.ult b a = false) : range a b = tightOf (upTo a (b - a).toNat) := by
  have hab : a.toNat ≤ b.toNat := by simp [BitVec.ult] at h; exact h
  have hk : (b - a).toNat = b.toNat - a.toNat := by
    rw [BitVec.toNat_sub]; have := b.isLt; have := a.isLt; omega
  have hx : (a ^^^ b).toNat = a.toNat ^^^ b.toNat := BitVec.toNat_xor _ _
  have hl := (bitLen_at (a ^^^ b).toNat (a ^^^ b).isLt).2.1
  have hm : orX a ((upTo a (b - a).toNat).drop 1) (BitVec.ofInt 64 0) = (BitVec.ofInt 64 1 <<< (len64 (a ^^^ b)).toNat) - BitVec.ofInt 64 1 := by
    have e0 : orX a ((upTo a (b - a).toNat).drop 1) (BitVec.ofInt 64 0) = orX a (upTo a (b - a).toNat) (BitVec.ofInt 64 0) := by
      obtain ⟨t, ht⟩ := upTo_head (b - a).toNat a
      rw [ht]
      simp [orX]
    rw [e0]
    refine BitVec.eq_of_getLsbD_eq fun j hj => ?_
    have hlen : (len64 (a ^^^ b)).toNat = Lib.bitLen (a.toNat ^^^ b.toNat) := by unfold len64; rw [hx, Int.toNat_natCast]
    rw [mask_bit (by rw [hlen, ← hx]; exact hl), hlen, orX_bit]
    have h0 : (BitVec.ofInt 64 0).getLsbD j = false := by
      have : BitVec.ofInt 64 0 = 0#64 := rfl
      rw [this]; simp
    rw [h0, Bool.false_or]
    have h1 := upTo_any (fun x => (x ^^^ a).getLsbD j) (b - a).toNat a
    have h2 := turns a.toNat b.toNat j hab b.isLt
    have h3 : (∃ i, i ≤ (b - a).toNat ∧ ((a + BitVec.ofNat 64 i) ^^^ a).getLsbD j = true) ↔ j < Lib.bitLen (a.toNat ^^^ b.toNat) := by
      rw [← h2, hk]
      constructor <;> rintro ⟨i, hi, ht⟩ <;> refine ⟨i, hi, ?_⟩
      · rw [← BitVec.testBit_toNat, BitVec.toNat_xor, BitVec.toNat_add, BitVec.toNat_ofNat] at ht
        have := b.isLt
        rw [Nat.mod_eq_of_lt (a := i) (by clear h1 h2; omega), Nat.mod_eq_of_lt (by clear h1 h2; omega)] at ht
        exact ht
      · rw [← BitVec.testBit_toNat, BitVec.toNat_xor, BitVec.toNat_add, BitVec.toNat_ofNat]
        have := b.isLt
        rw [Nat.mod_eq_of_lt (a := i) (by clear h1 h2; omega), Nat.mod_eq_of_lt (by clear h1 h2; omega)]
        exact ht
    cases hc : (upTo a (b - a).toNat).any (fun x => (x.1 ^^^ a).getLsbD j) with
    | true => exact (decide_eq_true (h3.1 (h1.1 hc))).symm
    | false =>
      refine (decide_eq_false fun hj' => ?_).symm
      rw [h1.2 (h3.2 hj')] at hc; cases hc
  have hh : head0 (upTo a (b - a).toNat) = a := by
    obtain ⟨t, ht⟩ := upTo_head (b - a).toNat a
    rw [ht]; rfl
  unfold range tightOf
  rw [h, hh, hm]
  rfl
end Go.Tn
