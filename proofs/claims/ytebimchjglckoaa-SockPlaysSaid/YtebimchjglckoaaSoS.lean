/-
  Sockets and ledgers: what the functions of the package tell.
-/
import Derived.Test.YtebimchjglckoaaSzAH
import Derived.KernelRfl
namespace Go.So
open Go Go.Sy Go.Sz
set_option linter.unusedVariables false
set_option linter.unusedSimpArgs false

@[reducible] def bytesT : Tys := .cons (.w .u8) .nil
@[reducible] def intsT : Tys := .cons (.i .i64) .nil
@[reducible] def rowsT : Tys := .cons (.sl bytesT) .nil
abbrev Bys := List (BitVec 8 × Unit)
abbrev Ints := List (Int × Unit)
abbrev Rws := List (Bys × Unit)
def good (x : Bys × Unit) : Bool := decide ((x.1.length : Int) = 20)
def goods (b : Rws) : Rws := b.takeWhile good
def ones (k : Nat) : Ints := List.replicate k (1, ())
def tabH (c : Ints) (a : Rws) : List Ob := [.lit [.h 1, .h 2], .row intsT c, .row rowsT a]
def tabHp (c : Ints) (a : Rws) : Hp := [(0, .lit [.h 1, .h 2]), (1, .row intsT c), (2, .row rowsT a)]
/-- the loop of NewTable -/
def ntG (b : Rws) (i : Int) (c : Ints) (a : Rws) : Tree (Ex × St) :=
  .ite ((b.drop i.toNat).all good) (.ret (.exit 0, ⟨[(4, .p (.one (.p 0 0)))], tabHp (c ++ ones (b.drop i.toNat).length) (a ++ b.drop i.toNat), 3⟩))
    (.ret (.ret, ⟨[(2, AV.c (.v (.pointer none))), (3, AV.c (.v (.int .i64 112))), (4, .p (.one (.p 0 0)))], tabHp (c ++ ones (goods (b.drop i.toNat)).length) (a ++ goods (b.drop i.toNat)), 3⟩))
/-- NewTable -/
def newTab (b : Rws) : Tree (AV × List Ob) :=
  .ite (decide (16 < b.length)) (.ret (.t [.one (.v (.pointer none)), .one (.v (.int .i64 111))], []))
    (.ite (b.all good) (.ret (.t [.one (.p 0 0), .one (.v (.int .i64 0))], tabH (ones b.length) b)) (.ret (.t [.one (.v (.pointer none)), .one (.v (.int .i64 112))], [])))
def fits (off size : Int) : Bool := (bif off == 0 || off == 4 || off == 8 || off == 16 then decide (size ≤ 4) else bif off == 12 || off == 14 then decide (size ≤ 2) else false) && (size == 1 || size == 2 || size == 4)
@[reducible] def z64 : BitVec 64 := BitVec.ofInt 64 0
theorem fits_spec {off size : Int} (h : fits off size = true) : 0 ≤ off ∧ 1 ≤ size ∧ size ≤ 4 ∧ off + size ≤ 20 := by
  unfold fits at h
  simp only [Bool.and_eq_true, Bool.or_eq_true, beq_iff_eq] at h
  obtain ⟨h1, h2⟩ := h
  by_cases g : off = 0 ∨ off = 4 ∨ off = 8 ∨ off = 16
  · have e : (off == 0 || off == 4 || off == 8 || off == 16) = true := by
      rcases g with rfl | rfl | rfl | rfl <;> rfl
    rw [e] at h1
    simp at h1; omega
  · have e : (off == 0 || off == 4 || off == 8 || off == 16) = false := by
      simp only [Bool.or_eq_false_iff, beq_eq_false_iff_ne]; omega
    rw [e] at h1
    by_cases g' : off = 12 ∨ off = 14
    · have e : (off == 12 || off == 14) = true := by rcases g' with rfl | rfl <;> rfl
      rw [e] at h1
      simp at h1; omega
    · have e : (off == 12 || off == 14) = false := by
        simp only [Bool.or_eq_false_iff, beq_eq_false_iff_ne]; omega
      rw [e] at h1
      cases h1
/-- bytes, the lowest first, put in from a place on -/
def fb : Bys → Nat → BitVec 64 → BitVec 64
  | [], _, x => x
  | a :: l, k, x => fb l (k + 1) (x ||| (a.1.setWidth 64 <<< (8 * k)))
def fieldV (l : Bys) (off size : Int) : BitVec 64 := fb ((l.drop off.toNat).take (off.toNat + size.toNat - off.toNat)) 0 z64
def twoA (v : BitVec 64) (t : Int) : AV := .t [.one (.w .u64 v), .one (.v (.int .i64 t))]
noncomputable def fieldT (i off size : Int) (c : Ints) (b : Rws) : Tree (AV × List Ob) :=
  .ite (decide (i < 0) || decide ((b.length : Int) ≤ i)) (.ret (twoA z64 8, tabH c b))
    (.ite (fits off size) (ckP ((b.getD i.toNat ([], ())).1.length = 20) (.ret (twoA (fieldV (b.getD i.toNat ([], ())).1 off size) 0, tabH c b))) (.ret (twoA z64 12, tabH c b)))
/-! ### The same bytes, from the highest on -/
def up (l : Bys) (off : Nat) : Nat → BitVec 64 → BitVec 64
  | 0, w => w
  | k + 1, w => up l off k (256#64 * w + (l.getD (off + k) (0#8, ())).1.setWidth 64)
def val : Bys → Nat
  | [] => 0
  | a :: l => a.1.toNat + 256 * val l
theorem val_lt : ∀ l : Bys, val l < 256 ^ l.length
  | [] => by simp [val]
  | a :: l => by
    have := val_lt l
    have := a.1.isLt
    simp only [val, List.length_cons, Nat.pow_succ]; omega
theorem val_append : ∀ (l k : Bys), val (l ++ k) = val l + 256 ^ l.length * val k
  | [], k => by simp [val]
  | a :: l, k => by
    simp only [List.cons_append, val, val_append l k, List.length_cons, Nat.pow_succ, Nat.mul_add]
    rw [← Nat.mul_assoc, Nat.mul_comm 256 (256 ^ l.length)]; omega
theorem p256 (k : Nat) : 256 ^ k = 2 ^ (8 * k) := by rw [Nat.pow_mul]
theorem fb_val : ∀ (l : Bys) (k : Nat) (x : BitVec 64), x.toNat < 256 ^ k → k + l.length ≤ 8 → (fb l k x).toNat = x.toNat + 256 ^ k * val l
  | [], k, x, _, _ => by simp [fb, val]
  | a :: l, k, x, hx, hk => by
    simp only [List.length_cons] at hk
    have ha : a.1.toNat < 256 := a.1.isLt
    have hp : 256 ^ (k + 1) ≤ 18446744073709551616 := by
      have : 256 ^ (k + 1) ≤ 256 ^ 8 := Nat.pow_le_pow_right (by decide) (by omega)
      exact Nat.le_trans this (by decide)
    have hb : a.1.toNat * 256 ^ k < 256 ^ (k + 1) := by
      rw [Nat.pow_succ, Nat.mul_comm]; exact Nat.mul_lt_mul_of_pos_left ha (Nat.pos_of_ne_zero (by simp))
    have hor : (x ||| (a.1.setWidth 64 <<< (8 * k))).toNat = x.toNat + 256 ^ k * a.1.toNat := by
      rw [BitVec.toNat_or, BitVec.toNat_shiftLeft, BitVec.toNat_setWidth, Nat.mod_eq_of_lt (a := a.1.toNat) (by omega), Nat.shiftLeft_eq, ← p256, Nat.mod_eq_of_lt (by omega), p256, ← Nat.shiftLeft_eq, Nat.or_comm,
        ← Nat.shiftLeft_add_eq_or_of_lt (by rw [← p256]; exact hx), Nat.shiftLeft_eq, Nat.mul_comm, Nat.add_comm]
    simp only [fb]
    rw [fb_val l (k + 1) _ (by rw [hor]; rw [Nat.pow_succ] at hb ⊢; rw [Nat.mul_comm] at hb; have := hx; have h3 : 256 ^ k * a.1.toNat + 256 ^ k ≤ 256 ^ k * 256 := by rw [← Nat.mul_succ]; exact Nat.mul_le_mul_left _ ha
                               omega) (by omega), hor]
    simp only [val, Nat.pow_succ, Nat.mul_add, Nat.mul_assoc]; omega
theorem up_val (l : Bys) (off : Nat) : ∀ (n : Nat) (w : BitVec 64), off + n ≤ l.length → w.toNat * 256 ^ n + 256 ^ n ≤ 18446744073709551616 → (up l off n w).toNat = w.toNat * 256 ^ n + val ((l.drop off).take n)
  | 0, w, _, _ => by simp [up, val]
  | n + 1, w, hl, hw => by
    simp only [up]
    have hg : l.getD (off + n) (0#8, ()) = (l.drop off)[n]'(by simp; omega) := by
      simp [List.getD, List.getElem?_eq_getElem (show off + n < l.length by omega)]
    have ha : ((l.getD (off + n) (0#8, ())).1.setWidth 64).toNat = (l.getD (off + n) (0#8, ())).1.toNat := by
      have := (l.getD (off + n) (0#8, ())).1.isLt
      rw [BitVec.toNat_setWidth, Nat.mod_eq_of_lt (by omega)]
    have hlt := (l.getD (off + n) (0#8, ())).1.isLt
    have hp : 1 ≤ 256 ^ n := Nat.pos_of_ne_zero (by simp)
    have hw2 : (w.toNat * 256 + 256) * 256 ^ n ≤ 18446744073709551616 := by
      rw [Nat.pow_succ] at hw
      have : (w.toNat * 256 + 256) * 256 ^ n = w.toNat * (256 ^ n * 256) + 256 ^ n * 256 := by rw [Nat.add_mul, Nat.mul_assoc, Nat.mul_comm 256 (256 ^ n)]
      omega
    have hw1 : w.toNat * 256 + 256 ≤ 18446744073709551616 := Nat.le_trans (Nat.le_mul_of_pos_right _ hp) hw2
    have hs : (256#64 * w + (l.getD (off + n) (0#8, ())).1.setWidth 64).toNat = 256 * w.toNat + (l.getD (off + n) (0#8, ())).1.toNat := by
      rw [BitVec.toNat_add, BitVec.toNat_mul, ha]
      simp only [BitVec.toNat_ofNat]
      omega
    rw [up_val l off n _ (by omega) (by
      rw [hs]
      have : (256 * w.toNat + (l.getD (off + n) (0#8, ())).1.toNat) * 256 ^ n + 256 ^ n ≤ (w.toNat * 256 + 256) * 256 ^ n := by
        rw [← Nat.succ_mul]; exact Nat.mul_le_mul_right _ (by omega)
      omega), hs]
    have hlen : ((l.drop off).take n).length = n := by rw [List.length_take, List.length_drop]; omega
    rw [List.take_succ_eq_append_getElem (by simp; omega), val_append, hlen]
    simp only [val, Nat.mul_zero, Nat.add_zero]
    rw [← hg, Nat.add_mul, Nat.pow_succ, Nat.mul_comm 256 w.toNat, Nat.mul_assoc, Nat.mul_comm 256 (256 ^ n), Nat.mul_comm (256 ^ n) (l.getD (off + n) (0#8, ())).1.toNat]
    omega
theorem field_up (l : Bys) (off size : Int) (h0 : 0 ≤ off) (h1 : 0 ≤ size) (h2 : size ≤ 8) (h3 : off.toNat + size.toNat ≤ l.length) : fieldV l off size = up l off.toNat size.toNat z64 := by
  apply BitVec.eq_of_toNat_eq
  unfold fieldV
  rw [fb_val _ _ _ (by decide) (by rw [List.length_take, List.length_drop]; omega), up_val _ _ _ _ h3 (by
    have : 256 ^ size.toNat ≤ 256 ^ 8 := Nat.pow_le_pow_right (by decide) (by omega)
    have : (z64).toNat = 0 := rfl
    rw [this, Nat.zero_mul, Nat.zero_add]; exact Nat.le_trans ‹256 ^ size.toNat ≤ 256 ^ 8› (by decide))]
  simp
end Go.So
