/-
  Scalars: plain laws for the statements.
-/
import Derived.Test.YtlaaljiffcablaaGreatDoorScV
import Derived.Test.YtlaaljiffcablaaGreatDoorScC
namespace Go.Sc
open Go Go.Sy Go.Tn

theorem has_iff {k : Sc} {n : BitVec 64} : has k n = true ↔ Has k n := has_iff'
theorem has_const (n x : BitVec 64) : has (const n) x = (x == n) := by
  rw [Bool.eq_iff_iff, has_iff, beq_iff_eq]
  exact const_has
theorem do_has {op : Int} {w : Bool} {a b : Sc} {x y : BitVec 64} (ga : Good a) (gb : Good b) (hx : Has a x) (hy : Has b y) (ho : opOk op = true) : Good (doS op w a b) ∧ Has (doS op w a b) (alu op w x y) := by
  rw [doS_eq ga gb]; exact do'_has ga gb hx hy ho
theorem isConst_const (n : BitVec 64) : isConst (const n) = true := rfl
theorem do_const {op : Int} (w : Bool) (a b : BitVec 64) (ho : opOk op = true) : doS op w (const a) (const b) = const (alu op w a b) := by
  rw [doS_eq (const_good a) (const_good b)]
  unfold do'
  rw [ho, isConst_const, isConst_const]
  simp only [cond_true]
  rfl
theorem do_bad {op : Int} (w : Bool) (a b : Sc) (ho : opOk op = false) : doS op w a b = all := by
  unfold doS do'
  rw [ho]; rfl
theorem sub_mask {s k : Sc} (h : Sub s k) (ok1 : ok s.t = true) (ok2 : ok k.t = true) (hm : k.t.m = zW) : s.t.m = zW := bext fun i hi => by
  rw [bt_zero]
  have := ((inn_iff ok1 ok2).1 h.t) i hi
  rw [hm, bt_zero] at this
  exact (this rfl).1
theorem sub_const {s : Sc} {n x : BitVec 64} (g : Good s) (h : Sub s (const n)) (hx : Has s x) : s = const n := by
  have hm := sub_mask h g.ok (const_good n).ok rfl
  have e := g.const_of hx hm
  have : Has (const n) x := h.has (const_good n).ok hx
  rw [const_has] at this
  rw [e, this]
theorem low_const (n : BitVec 64) : isConst (low (const n)) = true := by
  have hh := (low_hr (k := const n) (x := n) (const_has.2 rfl))
  have hs := hh.2
  refine isConst_iff.2 (sub_mask hs (low_good _).ok ?_ ?_)
  · cases BitVec.ule (const n).U max32 <;> exact (low_op.good (Tn.const n) (const_good n).ok)
  · have e : (Tn.low (Tn.const n)).m = zW := by
      have h := right_ok (show ok (Tn.const n) = true from (const_good n).ok)
      unfold Tn.low
      rw [h]
      show lo (BitVec.ofInt 64 0) = zW
      decide
    cases BitVec.ule (const n).U max32
    · exact e
    · exact e
theorem decided_const {op : Int} (w : Bool) (a b : BitVec 64) (hc : cmpOk op = true) : decided op w (const a) (const b) = (true, cmp op w a b) := by
  have h1 : (decided op w (const a) (const b)).1 = true := by
    unfold decided
    rw [hc, right_of (const_good a).st, right_of (const_good b).st]
    unfold dec'
    cases w with
    | true => rfl
    | false =>
      rw [low_const, low_const]; rfl
  exact Prod.ext h1 (decided_right (const_good a) (const_good b) (const_has.2 rfl) (const_has.2 rfl) hc h1)
theorem branch_const {op : Int} (w t : Bool) (a b : BitVec 64) (hc : cmpOk op = true) : branch op w t (const a) (const b) = bif cmp op w a b == t then some (const a, const b) else none := by
  cases he : (cmp op w a b == t) with
  | true =>
    obtain ⟨s, u, h1, h2, h3⟩ := branch_has (const_good a) (const_good b) (const_has.2 rfl) (const_has.2 rfl) hc (eq_of_beq he)
    obtain ⟨g1, g2, s1, s2⟩ := branch_in (const_good a) (const_good b) hc h1
    rw [h1, sub_const g1 s1 h2, sub_const g2 s2 h3]; rfl
  | false =>
    unfold branch
    rw [right_of (const_good a).st, right_of (const_good b).st]
    unfold branch'
    rw [hc, decided_const w a b hc]
    have : (cmp op w a b != t) = true := by rw [bne, he]; rfl
    simp only [Bool.not_true, cond_false, cond_true, this]
/-! ### Bounds of an operation of 64 bits -/
theorem opN_ok {op : Int} (h : opN op) : opOk op = true ∧ decide (op = 11) = false := by
  rcases h with rfl | rfl | rfl | rfl | rfl | rfl | rfl | rfl | rfl | rfl | rfl | rfl <;> exact ⟨rfl, rfl⟩
theorem wide_bounds {op : Int} {a b : Sc} {x y : BitVec 64} (ga : Good a) (gb : Good b) (hx : Has a x) (hy : Has b y) (ho : opN op) :
    (whole op a b).u.toNat ≤ (doS op true a b).u.toNat ∧ (doS op true a b).U.toNat ≤ (whole op a b).U.toNat := by
  obtain ⟨hok, h11⟩ := opN_ok ho
  have hw := whole_hr ga gb hx hy ho
  have hs := hw.synced
  rw [doS_eq ga gb]
  unfold do'
  rw [hok, h11]
  simp only [cond_true, cond_false]
  cases hk : (bif (bif isConst a then isConst b else false) then true else bif isConst a then decide (op = 8) else false) with
  | true =>
    simp only [cond_true]
    rw [alu_wide hok]
    have h1 : isConst a = true := by cases ha : isConst a with
      | true => rfl
      | false => rw [ha] at hk; cases hk
    have e1 : a.u = x := by rw [const_uniq ga h1 hx]; rfl
    have hv : opf op 64 a.u b.u = opf op 64 x y := by
      rw [e1]
      cases h2 : isConst b with
      | true => have e2 : b.u = y := by rw [const_uniq gb h2 hy]; rfl
                rw [e2]
      | false =>
        rw [h1, h2] at hk
        have : op = 8 := of_decide_eq_true hk
        subst this; rfl
    rw [hv]
    exact ⟨hw.1.u, hw.1.U⟩
  | false => simp only [cond_false]; exact ⟨hs.2.2.u, hs.2.2.U⟩
end Go.Sc
