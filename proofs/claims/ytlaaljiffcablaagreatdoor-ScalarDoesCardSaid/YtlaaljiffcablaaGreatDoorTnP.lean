/-
  The plain laws of tnums: bit by bit.
-/
import Derived.Test.YtlaaljiffcablaaGreatDoorTnS
namespace Go.Tn
open Go Go.Sy

def bt (x : BitVec 64) (i : Nat) : Bool := x.getLsbD i
theorem bext {x y : BitVec 64} (h : ∀ i, i < 64 → bt x i = bt y i) : x = y := BitVec.eq_of_getLsbD_eq fun i hi => h i hi
theorem bt_zero (i : Nat) : bt (BitVec.ofInt 64 0) i = false := by
  show (0#64).getLsbD i = false
  exact BitVec.getLsbD_zero
theorem bt_not {x : BitVec 64} {i : Nat} (hi : i < 64) : bt (~~~x) i = !bt x i := by
  show (~~~x).getLsbD i = _
  rw [BitVec.getLsbD_not, decide_eq_true hi, Bool.true_and]; rfl
theorem bt_and (x y : BitVec 64) (i : Nat) : bt (x &&& y) i = (bt x i && bt y i) := BitVec.getLsbD_and
theorem bt_or (x y : BitVec 64) (i : Nat) : bt (x ||| y) i = (bt x i || bt y i) := BitVec.getLsbD_or
theorem bt_xor (x y : BitVec 64) (i : Nat) : bt (x ^^^ y) i = (bt x i ^^ bt y i) := BitVec.getLsbD_xor
theorem bt_congr {x y : BitVec 64} (h : x = y) (i : Nat) : bt x i = bt y i := by rw [h]

theorem eqT_iff {a b : Tn} : eqT a b = true ↔ a = b := by
  cases a; cases b
  simp [eqT]

theorem ok_bit {a : Tn} (h : ok a = true) (i : Nat) : (bt a.v i && bt a.m i) = false := by
  have h1 : a.v &&& a.m = BitVec.ofInt 64 0 := by simpa [ok] using h
  rw [← bt_and, h1, bt_zero]
theorem ok_of {a : Tn} (h : ∀ i, i < 64 → (bt a.v i && bt a.m i) = false) : ok a = true := by
  have : a.v &&& a.m = BitVec.ofInt 64 0 := bext fun i hi => by rw [bt_and, h i hi, bt_zero]
  simp [ok, this]
theorem right_ok {a : Tn} (h : ok a = true) : right a = a := by simp [right, h]
theorem ok_unknown' : ok unknown = true := by decide +kernel
theorem ok_right' (a : Tn) : ok (right a) = true := by
  unfold right; cases h : ok a <;> simp [h, ok_unknown']
theorem ok_of' (v m : BitVec 64) : ok (of v m) = true := ok_of fun i hi => by
  simp only [of, bt_and, bt_not hi]
  exact (by decide : ∀ x y : Bool, ((x && !y) && y) = false) _ _

theorem inn_iff {a b : Tn} (ha : ok a = true) (hb : ok b = true) : inn a b = true ↔ ∀ i, i < 64 → bt b.m i = false → bt a.m i = false ∧ bt a.v i = bt b.v i := by
  unfold inn inn'
  rw [right_ok ha, right_ok hb]
  constructor
  · intro h i hi hm
    have h1 : a.m &&& ~~~b.m = BitVec.ofInt 64 0 ∧ a.v &&& ~~~b.m = b.v := by
      cases h2 : (a.m &&& ~~~b.m == BitVec.ofInt 64 0) with
      | false => rw [h2] at h; cases h
      | true => rw [h2] at h; exact ⟨by simpa using h2, by simpa using h⟩
    have h3 := bt_congr h1.1 i
    have h4 := bt_congr h1.2 i
    rw [bt_and, bt_not hi, hm, Bool.not_false, Bool.and_true] at h3 h4
    rw [bt_zero] at h3
    exact ⟨h3, h4⟩
  · intro h
    have h1 : a.m &&& ~~~b.m = BitVec.ofInt 64 0 := bext fun i hi => by
      rw [bt_and, bt_not hi, bt_zero]
      exact (by decide : ∀ x y z w : Bool, (y = false → x = false ∧ z = w) → (x && !y) = false) _ _ _ _ (h i hi)
    have h2 : a.v &&& ~~~b.m = b.v := bext fun i hi => by
      rw [bt_and, bt_not hi]
      exact (by decide : ∀ x y z w : Bool, (y = false → x = false ∧ z = w) → (w && y) = false → (z && !y) = w) _ _ _ _ (h i hi) (ok_bit hb i)
    simp [h1, h2]

theorem meetB_iff {a b : Tn} : meetB a b = true ↔ ∀ i, i < 64 → bt a.m i = false → bt b.m i = false → bt a.v i = bt b.v i := by
  unfold meetB
  constructor
  · intro h i hi h1 h2
    have h3 : a.v &&& ~~~(a.m ||| b.m) = b.v &&& ~~~(a.m ||| b.m) := by simpa using h
    have h4 := bt_congr h3 i
    rw [bt_and, bt_and, bt_not hi, bt_or, h1, h2] at h4
    exact (by decide : ∀ x y : Bool, (x && !(false || false)) = (y && !(false || false)) → x = y) _ _ h4
  · intro h
    have h3 : a.v &&& ~~~(a.m ||| b.m) = b.v &&& ~~~(a.m ||| b.m) := bext fun i hi => by
      rw [bt_and, bt_and, bt_not hi, bt_or]
      exact (by decide : ∀ x y z w : Bool, (x = false → y = false → z = w) → (z && !(x || y)) = (w && !(x || y))) _ _ _ _ (h i hi)
    simp [h3]

theorem meetB_comm (a b : Tn) : meetB a b = meetB b a := by
  rw [Bool.eq_iff_iff, meetB_iff, meetB_iff]
  constructor <;> exact fun h i hi h1 h2 => (h i hi h2 h1).symm
theorem meetOk_comm (a b : Tn) : meetOk a b = meetOk b a := meetB_comm _ _
theorem meet_comm (a b : Tn) : meet a b = meet b a := by
  unfold meet meet'
  rw [meetB_comm, BitVec.or_comm (right a).v, BitVec.and_comm (right a).m]
theorem meetB_self (a : Tn) : meetB a a = true := meetB_iff.2 fun _ _ _ _ => rfl
theorem meet_self {a : Tn} (h : ok a = true) : meet a a = a := by
  unfold meet meet'
  rw [right_ok h, meetB_self]
  simp
theorem meetOk_self (a : Tn) : meetOk a a = true := meetB_self _

theorem join'_eq (a b : Tn) (h : ok a = true) : join' a b = of a.v (a.m ||| b.m ||| (a.v ^^^ b.v)) := by
  unfold join'
  cases he : eqT a b with
  | false => rfl
  | true =>
    rw [← eqT_iff.1 he]
    have h1 : a.m ||| a.m ||| (a.v ^^^ a.v) = a.m := by simp
    rw [h1]
    have h2 : a.v &&& ~~~a.m = a.v := bext fun i hi => by
      rw [bt_and, bt_not hi]
      exact (by decide : ∀ x y : Bool, (x && y) = false → (x && !y) = x) _ _ (ok_bit h i)
    simp [of, h2]
theorem join_comm (a b : Tn) : join a b = join b a := by
  unfold join
  rw [join'_eq _ _ (ok_right' a), join'_eq _ _ (ok_right' b)]
  have e : (right b).m ||| (right a).m ||| ((right b).v ^^^ (right a).v) = (right a).m ||| (right b).m ||| ((right a).v ^^^ (right b).v) := by
    rw [BitVec.or_comm (right b).m, BitVec.xor_comm]
  rw [e]
  unfold of
  congr 1
  refine bext fun i hi => ?_
  rw [bt_and, bt_and, bt_not hi, bt_or, bt_or, bt_xor]
  exact (by decide : ∀ x y z w : Bool, (x && !(y || z || (x ^^ w))) = (w && !(y || z || (x ^^ w)))) _ _ _ _
theorem join_self {a : Tn} (h : ok a = true) : join a a = a := by
  unfold join join'
  rw [right_ok h, eqT_iff.2 rfl]
  rfl

theorem meet_v {a b : Tn} (ha : ok a = true) (hb : ok b = true) (h : meetOk a b = true) : meet a b = ⟨a.v ||| b.v, a.m &&& b.m⟩ := by
  unfold meetOk at h
  unfold meet meet'
  rw [h, right_ok ha, right_ok hb]
  rfl
theorem meet_ok {a b : Tn} (ha : ok a = true) (hb : ok b = true) (h : meetOk a b = true) : ok (meet a b) = true := by
  rw [meet_v ha hb h]
  refine ok_of fun i hi => ?_
  unfold meetOk at h
  rw [right_ok ha, right_ok hb, meetB_iff] at h
  rw [bt_and, bt_or]
  exact (by decide : ∀ x y z w : Bool, (x && y) = false → (z && w) = false → ((x || z) && (y && w)) = false) _ _ _ _ (ok_bit ha i) (ok_bit hb i)
theorem meet_in {a b : Tn} (ha : ok a = true) (hb : ok b = true) (h : meetOk a b = true) : inn (meet a b) a = true := by
  rw [inn_iff (meet_ok ha hb h) ha, meet_v ha hb h]
  unfold meetOk at h
  rw [right_ok ha, right_ok hb, meetB_iff] at h
  intro i hi hm
  rw [bt_and, bt_or]
  rw [hm]
  exact (by decide : ∀ x z w : Bool, (w = false → x = z) → (z && w) = false → (false && w) = false ∧ (x || z) = x) _ _ _ (h i hi hm) (ok_bit hb i)

theorem join_v {a b : Tn} (ha : ok a = true) (hb : ok b = true) : join a b = of a.v (a.m ||| b.m ||| (a.v ^^^ b.v)) := by
  unfold join; rw [right_ok ha, right_ok hb, join'_eq _ _ ha]
theorem join_in {a b : Tn} (ha : ok a = true) (hb : ok b = true) : inn a (join a b) = true := by
  rw [inn_iff ha (by rw [join_v ha hb]; exact ok_of' _ _), join_v ha hb]
  intro i hi hm
  simp only [of, bt_and, bt_not hi, bt_or, bt_xor] at hm ⊢
  exact (by decide : ∀ x y z w : Bool, (y || w || (x ^^ z)) = false → y = false ∧ x = (x && !(y || w || (x ^^ z)))) _ _ _ _ hm

theorem in_meet {a b : Tn} (ha : ok a = true) (hb : ok b = true) (h : inn a b = true) : meetOk a b = true ∧ meet a b = a ∧ join a b = b := by
  rw [inn_iff ha hb] at h
  have h1 : meetOk a b = true := by
    unfold meetOk
    rw [right_ok ha, right_ok hb, meetB_iff]
    exact fun i hi _ hm => (h i hi hm).2
  refine ⟨h1, ?_, ?_⟩
  · rw [meet_v ha hb h1]
    have e1 : a.v ||| b.v = a.v := bext fun i hi => by
      rw [bt_or]
      exact (by decide : ∀ x y z w : Bool, (y = false → z = false ∧ x = w) → (w && y) = false → (x || w) = x) _ _ _ _ (h i hi) (ok_bit hb i)
    have e2 : a.m &&& b.m = a.m := bext fun i hi => by
      rw [bt_and]
      exact (by decide : ∀ x y z w : Bool, (y = false → z = false ∧ x = w) → (z && y) = z) _ _ _ _ (h i hi)
    rw [e1, e2]
  · rw [join_v ha hb]
    have e2 : a.m ||| b.m ||| (a.v ^^^ b.v) = b.m := bext fun i hi => by
      rw [bt_or, bt_or, bt_xor]
      exact (by decide : ∀ x y z w : Bool, (y = false → z = false ∧ x = w) → (z || y || (x ^^ w)) = y) _ _ _ _ (h i hi)
    rw [e2]
    have e1 : a.v &&& ~~~b.m = b.v := bext fun i hi => by
      rw [bt_and, bt_not hi]
      exact (by decide : ∀ x y z w : Bool, (y = false → z = false ∧ x = w) → (w && y) = false → (x && !y) = w) _ _ _ _ (h i hi) (ok_bit hb i)
    simp [of, e1]
end Go.Tn
