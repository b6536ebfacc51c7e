/-
  Instructions as bytes.
-/
import Derived.Test.YtdbnbijillmlcaaInU
namespace Go.In
open Go Go.Sy Go.Sz
set_option linter.unusedVariables false
set_option linter.unusedSimpArgs false

/-- bytes, the lowest first, put in from a place on -/
def fbL : Bys → Nat → BitVec 64 → BitVec 64
  | [], _, x => x
  | a :: l, k, x => fbL l (k + 1) (x ||| (a.1.setWidth 64 <<< (8 * k)))
abbrev byA (b : Bys) (k : Nat) : BitVec 8 := (b.getD k (BitVec.ofNat 8 0, ())).1
def unL (b : Bys) : BitVec 64 := fbL b 0 (BitVec.ofInt 64 0)
/-- the number of bytes, the lowest first -/
def numL : Bys → Nat
  | [] => 0
  | a :: l => a.1.toNat + 256 * numL l
theorem pow8 (k : Nat) : 2 ^ (8 * (k + 1)) = 2 ^ (8 * k) * 256 := by
  rw [show 8 * (k + 1) = 8 * k + 8 by omega, Nat.pow_add]
theorem fbL_num : ∀ (l : Bys) (k : Nat) (x : BitVec 64), k + l.length ≤ 8 → x.toNat < 2 ^ (8 * k) → (fbL l k x).toNat = x.toNat + 2 ^ (8 * k) * numL l
  | [], k, x, _, _ => by simp [fbL, numL]
  | a :: l, k, x, h1, h2 => by
    have hk : k ≤ 7 := by simp at h1; omega
    have ha := a.1.isLt
    have hp : 2 ^ (8 * k) * 256 ≤ 2 ^ 64 := by
      rw [← pow8]; exact Nat.pow_le_pow_right (by omega) (by omega)
    have hs : a.1.toNat * 2 ^ (8 * k) < 2 ^ 64 := by
      have : a.1.toNat * 2 ^ (8 * k) ≤ 255 * 2 ^ (8 * k) := Nat.mul_le_mul_right _ (by omega)
      have := Nat.pos_of_ne_zero (show (2 ^ (8 * k)) ≠ 0 from Nat.ne_of_gt (Nat.two_pow_pos _))
      omega
    have e : (x ||| (a.1.setWidth 64 <<< (8 * k))).toNat = x.toNat + 2 ^ (8 * k) * a.1.toNat := by
      rw [BitVec.toNat_or, BitVec.toNat_shiftLeft, BitVec.toNat_setWidth, Nat.shiftLeft_eq, Nat.mod_eq_of_lt (a := a.1.toNat) (by omega), Nat.mod_eq_of_lt hs, Nat.or_comm, Nat.mul_comm, ← Nat.two_pow_add_eq_or_of_lt h2, Nat.add_comm]
    have hlt : (x ||| (a.1.setWidth 64 <<< (8 * k))).toNat < 2 ^ (8 * (k + 1)) := by
      rw [e, pow8]
      have : 2 ^ (8 * k) * a.1.toNat ≤ 2 ^ (8 * k) * 255 := Nat.mul_le_mul_left _ (by omega)
      omega
    rw [fbL, fbL_num l (k + 1) _ (by simp at h1; omega) hlt, e, pow8, numL, Nat.mul_add, Nat.mul_assoc, Nat.add_assoc]
theorem unL_num (l : Bys) (h : l.length ≤ 8) : (unL l).toNat = numL l := by
  unfold unL
  rw [fbL_num l 0 _ (by omega) (by decide)]
  simp
/-- the byte of a number -/
def byN (n : Nat) : BitVec 8 := BitVec.ofNat 8 n
abbrev u16 (f : Int) : Nat := (BitVec.ofInt 16 f).toNat
abbrev u32 (f : Int) : Nat := (BitVec.ofInt 32 f).toNat
/-- a slot's bytes -/
def encX (x : Ins) : Bys := [(x.1, ()), (x.2.2.1 <<< 4 ||| x.2.1 &&& BitVec.ofInt 8 15, ()), (byN (u16 x.2.2.2.1), ()), (byN (u16 x.2.2.2.1 / 256), ()),
  (byN (u32 x.2.2.2.2.1), ()), (byN (u32 x.2.2.2.2.1 / 256), ()), (byN (u32 x.2.2.2.2.1 / 65536), ()), (byN (u32 x.2.2.2.2.1 / 16777216), ())]
def encL (l : Slots) : Bys := l.flatMap encX
theorem encX_len (x : Ins) : (encX x).length = 8 := rfl
theorem encL_len : ∀ l : Slots, (encL l).length = 8 * l.length
  | [] => rfl
  | x :: l => by
    have := encL_len l
    simp only [encL, List.flatMap_cons, List.length_append, List.length_cons, encX_len] at *
    omega
theorem encL_up (l : Slots) (i : Nat) (h : i < l.length) : encL (l.take (i + 1)) = encL (l.take i) ++ encX (l.getD i noIns) := by
  rw [List.take_add_one, encL, List.flatMap_append]
  simp [encL, h]
theorem encL_app (a b : Slots) : encL (a ++ b) = encL a ++ encL b := by simp [encL]
theorem byte16 (f : Int) (k : Nat) : ((BitVec.ofInt 16 f).setWidth 64 >>> k).setWidth 8 = byN (u16 f / 2 ^ k) := by
  apply BitVec.eq_of_toNat_eq
  have := (BitVec.ofInt 16 f).isLt
  rw [BitVec.toNat_setWidth, BitVec.toNat_ushiftRight, BitVec.toNat_setWidth, Nat.shiftRight_eq_div_pow, Nat.mod_eq_of_lt (a := (BitVec.ofInt 16 f).toNat) (by omega)]
  simp [byN, u16]
theorem byte32 (f : Int) (k : Nat) : ((BitVec.ofInt 32 f).setWidth 64 >>> k).setWidth 8 = byN (u32 f / 2 ^ k) := by
  apply BitVec.eq_of_toNat_eq
  have := (BitVec.ofInt 32 f).isLt
  rw [BitVec.toNat_setWidth, BitVec.toNat_ushiftRight, BitVec.toNat_setWidth, Nat.shiftRight_eq_div_pow, Nat.mod_eq_of_lt (a := (BitVec.ofInt 32 f).toNat) (by omega)]
  simp [byN, u32]
theorem rbyte32 (f : Int) (k : Nat) : ((BitVec.ofInt 32 f) >>> k).setWidth 8 = byN (u32 f / 2 ^ k) := by
  apply BitVec.eq_of_toNat_eq
  rw [BitVec.toNat_setWidth, BitVec.toNat_ushiftRight, Nat.shiftRight_eq_div_pow]
  simp [byN, u32]
theorem rbyte16 (f : Int) : ((BitVec.ofInt 16 f) % BitVec.ofInt 16 256).setWidth 8 = byN (u16 f) ∧ ((BitVec.ofInt 16 f) / BitVec.ofInt 16 256).setWidth 8 = byN (u16 f / 256) := by
  constructor <;> apply BitVec.eq_of_toNat_eq
  · rw [BitVec.toNat_setWidth, BitVec.toNat_umod]
    simp [byN, u16]
  · rw [BitVec.toNat_setWidth, BitVec.toNat_udiv]
    simp [byN, u16]
theorem regs_same : ∀ s d : BitVec 8, s % BitVec.ofInt 8 16 * BitVec.ofInt 8 16 + d % BitVec.ofInt 8 16 = (s <<< 4 ||| d &&& BitVec.ofInt 8 15) := by
  intro s d
  have h1 : s % BitVec.ofInt 8 16 * BitVec.ofInt 8 16 = s <<< 4 := by revert s; decide +kernel
  have h2 : d % BitVec.ofInt 8 16 = d &&& BitVec.ofInt 8 15 := by revert d; decide +kernel
  rw [h1, h2]
  refine BitVec.add_eq_or_of_and_eq_zero _ _ ?_
  have h3 : ∀ s : BitVec 8, s <<< 4 &&& BitVec.ofInt 8 15 = 0#8 := by decide +kernel
  rw [← BitVec.and_assoc, BitVec.and_comm (s <<< 4) d, BitVec.and_assoc, h3]
  simp
/-- the slot that lies at a place of bytes -/
def decX (b : Bys) (k : Nat) : Ins := (byA b (8 * k), byA b (8 * k + 1) &&& BitVec.ofInt 8 15, byA b (8 * k + 1) >>> 4,
  IntKind.i16.wrap (((byA b (8 * k + 2)).toNat + 256 * (byA b (8 * k + 3)).toNat : Nat) : Int),
  IntKind.i32.wrap (((byA b (8 * k + 4)).toNat + 256 * (byA b (8 * k + 5)).toNat + 65536 * (byA b (8 * k + 6)).toNat + 16777216 * (byA b (8 * k + 7)).toNat : Nat) : Int), ())
def decL (b : Bys) (n : Nat) : Slots := (List.range n).map (decX b)
/-- what bytes tell; the fault -/
def decS (b : Bys) : Slots := if b.length % 8 = 0 then decL b (b.length / 8) else []
def decE (b : Bys) : Int := if b.length % 8 = 0 then 0 else 18
theorem decL_len (b : Bys) (n : Nat) : (decL b n).length = n := by simp [decL]
theorem decL_up (b : Bys) (n : Nat) : decL b (n + 1) = decL b n ++ [decX b n] := by simp [decL, List.range_succ]
theorem take_get {b : Bys} {i : Nat} (m : Nat) (h : i < b.length) : (b.drop i).take (m + 1) = (byA b i, ()) :: (b.drop (i + 1)).take m := by
  rw [drop_cons h (BitVec.ofNat 8 0, ()), List.take_succ_cons]
theorem num2 {b : Bys} {i : Nat} (h : i + 2 ≤ b.length) : numL ((b.drop i).take 2) = (byA b i).toNat + 256 * (byA b (i + 1)).toNat := by
  rw [take_get 1 (by omega), take_get 0 (by omega), List.take_zero]
  simp only [numL]
  omega
theorem num4 {b : Bys} {i : Nat} (h : i + 4 ≤ b.length) : numL ((b.drop i).take 4) = (byA b i).toNat + 256 * (byA b (i + 1)).toNat + 65536 * (byA b (i + 2)).toNat + 16777216 * (byA b (i + 3)).toNat := by
  rw [take_get 3 (by omega), take_get 2 (by omega), take_get 1 (by omega), take_get 0 (by omega), List.take_zero]
  simp only [numL, Nat.add_assoc, Nat.reduceAdd]
  omega
theorem wrap16_toInt (x : BitVec 16) : IntKind.i16.wrap (x.toNat : Int) = x.toInt := by
  have := x.isLt
  rw [BitVec.toInt_eq_toNat_cond]
  simp only [IntKind.wrap, IntKind.bits, IntKind.signed, Bool.true_and]
  split <;> split <;> simp_all <;> omega
theorem wrap32_toInt (x : BitVec 32) : IntKind.i32.wrap (x.toNat : Int) = x.toInt := by
  have := x.isLt
  rw [BitVec.toInt_eq_toNat_cond]
  simp only [IntKind.wrap, IntKind.bits, IntKind.signed, Bool.true_and]
  split <;> split <;> simp_all <;> omega
theorem dec16 (p q : BitVec 8) : (p.setWidth 16 + BitVec.ofInt 16 256 * q.setWidth 16).toInt = IntKind.i16.wrap ((p.toNat + 256 * q.toNat : Nat) : Int) := by
  rw [← wrap16_toInt]
  congr 2
  have := p.isLt
  have := q.isLt
  rw [BitVec.toNat_add, BitVec.toNat_mul, BitVec.toNat_setWidth, BitVec.toNat_setWidth, show (BitVec.ofInt 16 256).toNat = 256 from rfl]
  omega
theorem dec32 (p q r s : BitVec 8) : (BitVec.ofInt 32 256 * (BitVec.ofInt 32 256 * (BitVec.ofInt 32 256 * (BitVec.ofInt 32 256 * BitVec.ofInt 32 0 + s.setWidth 32) + r.setWidth 32) + q.setWidth 32) + p.setWidth 32).toInt =
    IntKind.i32.wrap ((p.toNat + 256 * q.toNat + 65536 * r.toNat + 16777216 * s.toNat : Nat) : Int) := by
  rw [← wrap32_toInt]
  congr 2
  have := p.isLt
  have := q.isLt
  have := r.isLt
  have := s.isLt
  simp only [BitVec.toNat_add, BitVec.toNat_mul, BitVec.toNat_setWidth, show (BitVec.ofInt 32 256).toNat = 256 from rfl, show (BitVec.ofInt 32 0).toNat = 0 from rfl]
  omega
theorem regs16 : ∀ d : BitVec 8, d % BitVec.ofInt 8 16 = (d &&& BitVec.ofInt 8 15) ∧ d / BitVec.ofInt 8 16 = d >>> 4 := by decide +kernel

/-! ### There and back -/
theorem u16_nat (f : Int) : (u16 f : Int) = f % 65536 := by
  rw [u16, BitVec.toNat_ofInt]; omega
theorem u32_nat (f : Int) : (u32 f : Int) = f % 4294967296 := by
  rw [u32, BitVec.toNat_ofInt]; omega
theorem wrap16 {f : Int} (n : Int) (h : n = f % 65536) (h0 : -32768 ≤ f) (h1 : f ≤ 32767) : IntKind.i16.wrap n = f := by
  simp only [IntKind.wrap, IntKind.bits, IntKind.signed, Bool.true_and]
  split <;> simp_all <;> omega
theorem wrap32 {f : Int} (n : Int) (h : n = f % 4294967296) (h0 : -2147483648 ≤ f) (h1 : f ≤ 2147483647) : IntKind.i32.wrap n = f := by
  simp only [IntKind.wrap, IntKind.bits, IntKind.signed, Bool.true_and]
  split <;> simp_all <;> omega
theorem wrap16_mod (n : Int) : IntKind.i16.wrap n % 65536 = n % 65536 := by
  simp only [IntKind.wrap, IntKind.bits, IntKind.signed, Bool.true_and]
  split <;> simp_all <;> omega
theorem wrap32_mod (n : Int) : IntKind.i32.wrap n % 4294967296 = n % 4294967296 := by
  simp only [IntKind.wrap, IntKind.bits, IntKind.signed, Bool.true_and]
  split <;> simp_all <;> omega
theorem encL_at (l : Slots) (k j : Nat) (h : k < l.length) (hj : j < 8) : byA (encL l) (8 * k + j) = byA (encX (l.getD k noIns)) j := by
  have e0 : l = l.take k ++ ([l.getD k noIns] ++ l.drop (k + 1)) := by
    have := drop_cons h noIns
    rw [show [l.getD k noIns] ++ l.drop (k + 1) = l.drop k by rw [this]; rfl, List.take_append_drop]
  have e : encL l = encL (l.take k) ++ (encX (l.getD k noIns) ++ encL (l.drop (k + 1))) := by
    conv => lhs; rw [e0, encL_app, encL_app, show encL [l.getD k noIns] = encX (l.getD k noIns) by simp [encL]]
  have hl : (encL (l.take k)).length = 8 * k := by rw [encL_len, List.length_take]; omega
  unfold byA
  rw [e, List.getD_eq_getElem?_getD, List.getElem?_append_right (by omega), hl, show 8 * k + j - 8 * k = j by omega, List.getElem?_append_left (by rw [encX_len]; exact hj)]
  simp only [List.getD_eq_getElem?_getD]
/-- what a slot that has bytes is like -/
def fine (x : Ins) : Prop := x.2.1.toNat ≤ 15 ∧ x.2.2.1.toNat ≤ 15 ∧ (-32768 ≤ x.2.2.2.1 ∧ x.2.2.2.1 ≤ 32767) ∧ (-2147483648 ≤ x.2.2.2.2.1 ∧ x.2.2.2.2.1 ≤ 2147483647)
theorem byN_toNat (n : Nat) : (byN n).toNat = n % 256 := by simp [byN]
theorem regs_back : ∀ s d : BitVec 8, d.toNat ≤ 15 → s.toNat ≤ 15 → ((s <<< 4 ||| d &&& BitVec.ofInt 8 15) &&& BitVec.ofInt 8 15) = d ∧ (s <<< 4 ||| d &&& BitVec.ofInt 8 15) >>> 4 = s := by
  intro s d hd hs
  have e1 : ∀ d : BitVec 8, d.toNat ≤ 15 → d &&& BitVec.ofInt 8 15 = d := by decide +kernel
  have e2 : ∀ s : BitVec 8, s.toNat ≤ 15 → s <<< 4 &&& BitVec.ofInt 8 15 = 0#8 ∧ (s <<< 4) >>> 4 = s := by decide +kernel
  have e3 : ∀ d : BitVec 8, d.toNat ≤ 15 → d >>> 4 = 0#8 := by decide +kernel
  rw [e1 d hd]
  constructor
  · rw [BitVec.and_comm, BitVec.and_or_distrib_left, BitVec.and_comm _ (s <<< 4), BitVec.and_comm _ d, (e2 s hs).1, e1 d hd]
    simp
  · rw [BitVec.ushiftRight_or_distrib, (e2 s hs).2, e3 d hd]
    simp
theorem dec_enc {l : Slots} {k : Nat} (h : k < l.length) (hf : fine (l.getD k noIns)) : decX (encL l) k = l.getD k noIns := by
  unfold decX
  rw [show 8 * k = 8 * k + 0 from rfl, encL_at l k 0 h (by decide), encL_at l k 1 h (by decide), encL_at l k 2 h (by decide), encL_at l k 3 h (by decide), encL_at l k 4 h (by decide), encL_at l k 5 h (by decide), encL_at l k 6 h (by decide), encL_at l k 7 h (by decide)]
  generalize l.getD k noIns = x at *
  obtain ⟨o, d, s, f, n, u⟩ := x
  obtain ⟨h1, h2, ⟨h3, h4⟩, h5, h6⟩ := hf
  obtain ⟨r1, r2⟩ := regs_back s d h1 h2
  have a1 := u16_nat f
  have a2 := u32_nat n
  have b1 := (BitVec.ofInt 16 f).isLt
  have b2 := (BitVec.ofInt 32 n).isLt
  change (o, (s <<< 4 ||| d &&& BitVec.ofInt 8 15) &&& BitVec.ofInt 8 15, (s <<< 4 ||| d &&& BitVec.ofInt 8 15) >>> 4, IntKind.i16.wrap (((byN (u16 f)).toNat + 256 * (byN (u16 f / 256)).toNat : Nat) : Int),
    IntKind.i32.wrap (((byN (u32 n)).toNat + 256 * (byN (u32 n / 256)).toNat + 65536 * (byN (u32 n / 65536)).toNat + 16777216 * (byN (u32 n / 16777216)).toNat : Nat) : Int), ()) = _
  rw [r1, r2, wrap16 (f := f) _ (by rw [← a1]; simp only [byN_toNat, u16] at *; omega) h3 h4, wrap32 (f := n) _ (by rw [← a2]; simp only [byN_toNat, u32] at *; omega) h5 h6]
theorem regs_y : ∀ y : BitVec 8, ((y >>> 4) <<< 4 ||| (y &&& BitVec.ofInt 8 15) &&& BitVec.ofInt 8 15) = y := by decide +kernel
theorem byN_self (x : BitVec 8) (n : Nat) (h : n % 256 = x.toNat) : byN n = x := by
  apply BitVec.eq_of_toNat_eq
  rw [byN_toNat, h]
theorem enc_dec {b : Bys} {k : Nat} (h : 8 * k + 8 ≤ b.length) : encX (decX b k) = (b.drop (8 * k)).take 8 := by
  rw [take_get 7 (by omega), take_get 6 (by omega), take_get 5 (by omega), take_get 4 (by omega), take_get 3 (by omega), take_get 2 (by omega), take_get 1 (by omega), take_get 0 (by omega), List.take_zero]
  unfold encX decX
  simp only [Nat.add_assoc, Nat.reduceAdd]
  generalize byA b (8 * k) = y0
  generalize byA b (8 * k + 1) = y1
  generalize byA b (8 * k + 2) = y2
  generalize byA b (8 * k + 3) = y3
  generalize byA b (8 * k + 4) = y4
  generalize byA b (8 * k + 5) = y5
  generalize byA b (8 * k + 6) = y6
  generalize byA b (8 * k + 7) = y7
  have l2 := y2.isLt
  have l3 := y3.isLt
  have l4 := y4.isLt
  have l5 := y5.isLt
  have l6 := y6.isLt
  have l7 := y7.isLt
  have a1 : u16 (IntKind.i16.wrap ((y2.toNat + 256 * y3.toNat : Nat) : Int)) = y2.toNat + 256 * y3.toNat := by
    have := u16_nat (IntKind.i16.wrap ((y2.toNat + 256 * y3.toNat : Nat) : Int))
    rw [wrap16_mod] at this
    omega
  have a2 : u32 (IntKind.i32.wrap ((y4.toNat + (256 * y5.toNat + (65536 * y6.toNat + 16777216 * y7.toNat)) : Nat) : Int)) = y4.toNat + 256 * y5.toNat + 65536 * y6.toNat + 16777216 * y7.toNat := by
    have := u32_nat (IntKind.i32.wrap ((y4.toNat + (256 * y5.toNat + (65536 * y6.toNat + 16777216 * y7.toNat)) : Nat) : Int))
    rw [wrap32_mod] at this
    omega
  rw [a1, a2, regs_y, byN_self y2 _ (by omega), byN_self y3 _ (by omega), byN_self y4 _ (by omega), byN_self y5 _ (by omega), byN_self y6 _ (by omega), byN_self y7 _ (by omega)]
theorem encL_decL {b : Bys} : ∀ n, 8 * n ≤ b.length → encL (decL b n) = b.take (8 * n)
  | 0, _ => by simp [decL, encL]
  | n + 1, h => by
    rw [decL_up, encL_app, encL_decL n (by omega), show encL [decX b n] = encX (decX b n) by simp [encL], enc_dec (by omega), show 8 * (n + 1) = 8 * n + 8 by omega, List.take_add]

/-! ### The same things -/
def sameI (a b : Slots) : Bool := decide (a = b)
def sameP (a b : Parts) : Bool := decide (a = b)
/-- have all slots registers that their bytes can have? -/
def fineB (l : Slots) : Bool := l.all fun x => !(BitVec.ofInt 8 15).ult x.2.1 && !(BitVec.ofInt 8 15).ult x.2.2.1
theorem strOf_beq (a b : Bys) : ((strOf a).toList == (strOf b).toList) = decide (a = b) := by
  unfold strOf
  rw [ByteArray.toList_mk, ByteArray.toList_mk]
  by_cases e : a = b
  · subst e; simp
  · rw [decide_eq_false e]
    refine beq_false_of_ne fun h => e ?_
    have h : a.map (fun x : BitVec 8 × Unit => UInt8.ofBitVec x.1) = b.map (fun x : BitVec 8 × Unit => UInt8.ofBitVec x.1) := h
    refine ext_getD (BitVec.ofNat 8 0, ()) (by have := congrArg List.length h; rw [List.length_map, List.length_map] at this; exact this) fun j hj => ?_
    have hj' : j < b.length := by
      have := congrArg List.length h
      rw [List.length_map, List.length_map] at this
      omega
    have := congrArg (fun z : List UInt8 => z[j]?) h
    simp only [List.getElem?_map, List.getElem?_eq_getElem hj, List.getElem?_eq_getElem hj', Option.map_some, Option.some.injEq] at this
    have e2 : a[j].1 = b[j].1 := by injection this
    rw [List.getD_eq_getElem?_getD, List.getD_eq_getElem?_getD, List.getElem?_eq_getElem hj, List.getElem?_eq_getElem hj']
    exact Prod.ext e2 rfl
def sameB (a b : Bys) : Bool := decide (a = b)
theorem decI {a b : Slots} (h : a.length = b.length) (h2 : ∀ j : Nat, (j : Int) < a.length → a.getD j noIns = b.getD j noIns) : sameI a b = true := decide_eq_true (ext_getD noIns h fun j hj => h2 j (by omega))
theorem decI_no {a b : Slots} (j : Nat) (h : a.getD j noIns ≠ b.getD j noIns) : sameI a b = false := decide_eq_false fun e => h (by rw [e])
theorem decPs {a b : Parts} (h : a.length = b.length) (h2 : ∀ j : Nat, (j : Int) < a.length → a.getD j (0, 0, ()) = b.getD j (0, 0, ())) : sameP a b = true := decide_eq_true (ext_getD (0, 0, ()) h fun j hj => h2 j (by omega))
theorem decPs_no {a b : Parts} (j : Nat) (h : a.getD j (0, 0, ()) ≠ b.getD j (0, 0, ())) : sameP a b = false := decide_eq_false fun e => h (by rw [e])
theorem beqI (a b : Ins) : (a.1 == b.1 && (a.2.1 == b.2.1 && (a.2.2.1 == b.2.2.1 && (a.2.2.2.1 == b.2.2.2.1 && (a.2.2.2.2.1 == b.2.2.2.2.1 && true))))) = decide (a = b) := by
  obtain ⟨a1, a2, a3, a4, a5, _⟩ := a
  obtain ⟨b1, b2, b3, b4, b5, _⟩ := b
  by_cases h : (a1, a2, a3, a4, a5, ()) = (b1, b2, b3, b4, b5, ())
  · rw [decide_eq_true h]
    simp only [Prod.mk.injEq] at h
    obtain ⟨rfl, rfl, rfl, rfl, rfl, _⟩ := h
    simp
  · rw [decide_eq_false h]
    rw [Bool.eq_false_iff]
    intro h2
    simp only [Bool.and_eq_true, beq_iff_eq] at h2
    exact h (by rw [h2.1, h2.2.1, h2.2.2.1, h2.2.2.2.1, h2.2.2.2.2.1])
theorem beqP (a b : SubP) : (a.1 == b.1 && (a.2.1 == b.2.1 && true)) = decide (a = b) := by
  obtain ⟨a1, a2, _⟩ := a
  obtain ⟨b1, b2, _⟩ := b
  by_cases h : (a1, a2, ()) = (b1, b2, ())
  · rw [decide_eq_true h]
    simp only [Prod.mk.injEq] at h
    obtain ⟨rfl, rfl, _⟩ := h
    simp
  · rw [decide_eq_false h]
    rw [Bool.eq_false_iff]
    intro h2
    simp only [Bool.and_eq_true, beq_iff_eq] at h2
    exact h (by rw [h2.1, h2.2.1])
theorem fine_mem {l : Slots} (h : fineB l = true) {k : Nat} (hk : k < l.length) : (l.getD k noIns).2.1.toNat ≤ 15 ∧ (l.getD k noIns).2.2.1.toNat ≤ 15 := by
  unfold fineB at h
  rw [List.all_eq_true] at h
  have e : l.getD k noIns = l[k] := by simp [List.getD_eq_getElem?_getD, hk]
  have := h l[k] (List.getElem_mem hk)
  rw [e]
  rw [Bool.and_eq_true, Bool.not_eq_true', Bool.not_eq_true'] at this
  have key : ∀ x : BitVec 8, (BitVec.ofInt 8 15).ult x = false → x.toNat ≤ 15 := by decide +kernel
  exact ⟨key _ this.1, key _ this.2⟩
theorem decS_enc {l : Slots} (h : ∀ k, k < l.length → fine (l.getD k noIns)) : decS (encL l) = l ∧ decE (encL l) = 0 := by
  have hl := encL_len l
  have hm : (encL l).length % 8 = 0 := by omega
  refine ⟨?_, if_pos hm⟩
  rw [show decS (encL l) = decL (encL l) ((encL l).length / 8) from if_pos hm, hl, Nat.mul_div_cancel_left _ (by decide)]
  refine ext_getD noIns (decL_len _ _) fun j hj => ?_
  rw [decL_len] at hj
  rw [← dec_enc hj (h j hj)]
  simp [decL, List.getD_eq_getElem?_getD, hj]
theorem enc_decS {b : Bys} (h : decE b = 0) : encL (decS b) = b := by
  unfold decE at h
  by_cases hm : b.length % 8 = 0
  · rw [show decS b = decL b (b.length / 8) from if_pos hm, encL_decL _ (by omega), List.take_of_length_le (by omega)]
  · rw [if_neg hm] at h; cases h
theorem decS_len (b : Bys) : (decS b).length ≤ b.length := by
  unfold decS
  split
  · rw [decL_len]; omega
  · exact Nat.zero_le _
/-- a wide load's number; is it one? -/
def wideV (l : Slots) (k : Int) : BitVec 64 := (BitVec.ofInt 32 (l.getD k.toNat noIns).2.2.2.2.1).setWidth 64 ||| (BitVec.ofInt 32 (l.getD (k + 1).toNat noIns).2.2.2.2.1).setWidth 64 <<< 32
end Go.In
