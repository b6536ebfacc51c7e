/-
  The operations of tnums: nothing is lost, and nothing is let in that need not be: so they rise.
-/
import Derived.Test.YtlaaljiffcablaaGreatDoorTnP
namespace Go.Tn
open Go Go.Sy

/-- A tnum has a number, bit by bit. -/
def Mem (a : Tn) (x : BitVec 64) : Prop := ∀ i, i < 64 → bt a.m i = false → bt x i = bt a.v i

theorem has_iff {a : Tn} (h : ok a = true) {x : BitVec 64} : has a x = true ↔ Mem a x := by
  unfold has
  rw [h]
  show (x &&& ~~~a.m == a.v) = true ↔ _
  rw [beq_iff_eq]
  constructor
  · intro e i hi hm
    have := bt_congr e i
    rw [bt_and, bt_not hi, hm] at this
    simpa using this
  · intro hx
    refine bext fun i hi => ?_
    rw [bt_and, bt_not hi]
    exact (by decide : ∀ x v m : Bool, (m = false → x = v) → (v && m) = false → (x && !m) = v) _ _ _ (hx i hi) (ok_bit h i)
theorem has_ok {a : Tn} {x : BitVec 64} (h : has a x = true) : ok a = true := by
  unfold has at h
  cases e : ok a with
  | true => rfl
  | false => rw [e] at h; cases h

def mx (a : Tn) : BitVec 64 := a.v ||| a.m
theorem mem_v (a : Tn) : Mem a a.v := fun _ _ _ => rfl
theorem mem_mx (a : Tn) : Mem a (mx a) := fun i _ hm => by unfold mx; rw [bt_or, hm, Bool.or_false]

theorem inn_mem {a b : Tn} (ha : ok a = true) (hb : ok b = true) (h : inn a b = true) {x : BitVec 64} (hx : Mem a x) : Mem b x := fun i hi hm => by
  have := (inn_iff ha hb).1 h i hi hm
  rw [hx i hi this.1, this.2]

/-- All of one are in another: then it is in it. -/
theorem inn_of_mem {a b : Tn} (ha : ok a = true) (hb : ok b = true) (h : ∀ x, Mem a x → Mem b x) : inn a b = true := by
  rw [inn_iff ha hb]
  intro i hi hm
  have h1 := h _ (mem_v a) i hi hm
  have h2 := h _ (mem_mx a) i hi hm
  unfold mx at h2
  rw [bt_or] at h2
  exact (by decide : ∀ x m v : Bool, x = v → (x || m) = v → (x && m) = false → m = false ∧ x = v) _ _ _ h1 h2 (ok_bit ha i)

/-! ### Two numbers -/
structure Op2 (f : BitVec 64 → BitVec 64 → BitVec 64) (F : Tn → Tn → Tn) : Prop where
  good : ∀ a b, ok a = true → ok b = true → ok (F a b) = true
  sound : ∀ a b, ok a = true → ok b = true → ∀ x y, Mem a x → Mem b y → Mem (F a b) (f x y)
  tight : ∀ a b, ok a = true → ok b = true → ∀ i, i < 64 → bt (F a b).m i = true → ∃ x y x' y', Mem a x ∧ Mem b y ∧ Mem a x' ∧ Mem b y' ∧ bt (f x y) i ≠ bt (f x' y') i

theorem Op2.rise {f F} (o : Op2 f F) {a b c d : Tn} (ha : ok a = true) (hb : ok b = true) (hc : ok c = true) (hd : ok d = true) (h1 : inn a c = true) (h2 : inn b d = true) : inn (F a b) (F c d) = true := by
  rw [inn_iff (o.good a b ha hb) (o.good c d hc hd)]
  intro i hi hm
  have key : ∀ x y, Mem a x → Mem b y → bt (f x y) i = bt (F c d).v i := fun x y hx hy => o.sound c d hc hd x y (inn_mem ha hc h1 hx) (inn_mem hb hd h2 hy) i hi hm
  have hm2 : bt (F a b).m i = false := by
    cases e : bt (F a b).m i with
    | false => rfl
    | true =>
      obtain ⟨x, y, x', y', h3, h4, h5, h6, h7⟩ := o.tight a b ha hb i hi e
      exact absurd ((key x y h3 h4).trans (key x' y' h5 h6).symm) h7
  exact ⟨hm2, by rw [← o.sound a b ha hb a.v b.v (mem_v a) (mem_v b) i hi hm2]; exact key _ _ (mem_v a) (mem_v b)⟩

/-! ### Sums -/
def adc (x y : BitVec 64) (c : Bool) : BitVec 64 := x + y + BitVec.setWidth 64 (BitVec.ofBool c)
theorem bt_adc (x y : BitVec 64) (c : Bool) {i : Nat} (hi : i < 64) : bt (adc x y c) i = (bt x i ^^ (bt y i ^^ BitVec.carry i x y c)) := BitVec.getLsbD_add_add_bool hi x y c

theorem mod_le {x y : BitVec 64} {i : Nat} (h : ∀ j, j < i → bt x j = true → bt y j = true) : x.toNat % 2 ^ i ≤ y.toNat % 2 ^ i := by
  have e : (x.toNat % 2 ^ i) = (x.toNat % 2 ^ i) &&& (y.toNat % 2 ^ i) := Nat.eq_of_testBit_eq fun j => by
    rw [Nat.testBit_and, Nat.testBit_mod_two_pow, Nat.testBit_mod_two_pow, BitVec.testBit_toNat, BitVec.testBit_toNat]
    show (decide (j < i) && bt x j) = ((decide (j < i) && bt x j) && (decide (j < i) && bt y j))
    by_cases hj : j < i
    · have := h j hj
      rw [decide_eq_true hj]
      exact (by decide : ∀ p q : Bool, (p = true → q = true) → (true && p) = ((true && p) && (true && q))) _ _ this
    · rw [decide_eq_false hj]; rfl
  rw [e]; exact Nat.and_le_right
theorem mod_eq {x y : BitVec 64} {i : Nat} (h : ∀ j, j < i → bt x j = bt y j) : x.toNat % 2 ^ i = y.toNat % 2 ^ i :=
  Nat.le_antisymm (mod_le fun j hj e => by rw [← h j hj]; exact e) (mod_le fun j hj e => by rw [h j hj]; exact e)

theorem carry_mono {x y x' y' : BitVec 64} {c : Bool} {i : Nat} (h : ∀ j, j < i → bt x j = true → bt x' j = true) (h' : ∀ j, j < i → bt y j = true → bt y' j = true) (hc : BitVec.carry i x y c = true) : BitVec.carry i x' y' c = true := by
  unfold BitVec.carry at hc ⊢
  have := mod_le h
  have := mod_le h'
  have := of_decide_eq_true hc
  exact decide_eq_true (by omega)
theorem carry_congr {x y x' y' : BitVec 64} {c : Bool} {i : Nat} (h : ∀ j, j < i → bt x j = bt x' j) (h' : ∀ j, j < i → bt y j = bt y' j) : BitVec.carry i x y c = BitVec.carry i x' y' c := by
  unfold BitVec.carry
  rw [mod_eq h, mod_eq h']

theorem mem_lo {a : Tn} (ha : ok a = true) {x : BitVec 64} (hx : Mem a x) {j : Nat} (hj : j < 64) (h : bt a.v j = true) : bt x j = true :=
  (by decide : ∀ v m x : Bool, v = true → (v && m) = false → (m = false → x = v) → x = true) _ _ _ h (ok_bit ha j) (hx j hj)
theorem mem_hi {a : Tn} {x : BitVec 64} (hx : Mem a x) {j : Nat} (hj : j < 64) (h : bt x j = true) : bt (mx a) j = true := by
  unfold mx; rw [bt_or]
  exact (by decide : ∀ v m x : Bool, x = true → (m = false → x = v) → (v || m) = true) _ _ _ h (hx j hj)

/-- The tnum of sums, with a carry coming in. -/
def sumM (a b : Tn) (c : Bool) : BitVec 64 := (adc (mx a) (mx b) c ^^^ adc a.v b.v c) ||| a.m ||| b.m

theorem sum_fix {a b : Tn} (ha : ok a = true) (hb : ok b = true) (c : Bool) {i : Nat} (hi : i < 64) (hm : bt (sumM a b c) i = false) {x y : BitVec 64} (hx : Mem a x) (hy : Mem b y) : bt (adc x y c) i = bt (adc a.v b.v c) i := by
  unfold sumM at hm
  rw [bt_or, bt_or, bt_xor, bt_adc _ _ _ hi, bt_adc _ _ _ hi] at hm
  rw [bt_adc _ _ _ hi, bt_adc _ _ _ hi]
  have h1 : bt a.m i = false := (by decide : ∀ p q r : Bool, (p || q || r) = false → q = false) _ _ _ hm
  have h2 : bt b.m i = false := (by decide : ∀ p q r : Bool, (p || q || r) = false → r = false) _ _ _ hm
  rw [h1, h2] at hm
  have e1 : bt (mx a) i = bt a.v i := mem_mx a i hi h1
  have e2 : bt (mx b) i = bt b.v i := mem_mx b i hi h2
  rw [e1, e2] at hm
  have k1 : BitVec.carry i a.v b.v c = true → BitVec.carry i x y c = true := carry_mono (fun j hj => mem_lo ha hx (Nat.lt_trans hj hi)) (fun j hj => mem_lo hb hy (Nat.lt_trans hj hi))
  have k2 : BitVec.carry i x y c = true → BitVec.carry i (mx a) (mx b) c = true := carry_mono (fun j hj => mem_hi hx (Nat.lt_trans hj hi)) (fun j hj => mem_hi hy (Nat.lt_trans hj hi))
  rw [hx i hi h1, hy i hi h2]
  exact (by decide : ∀ v w p q r : Bool, (((v ^^ (w ^^ r)) ^^ (v ^^ (w ^^ p))) || false || false) = false → (p = true → q = true) → (q = true → r = true) → (v ^^ (w ^^ q)) = (v ^^ (w ^^ p))) _ _ _ _ _ hm k1 k2

/-- One number with a bit turned on. -/
def up (a : Tn) (i : Nat) : BitVec 64 := a.v ||| (a.m &&& (1#64 <<< i))
theorem bt_one {i j : Nat} (hj : j < 64) : bt (1#64 <<< i) j = decide (j = i) := by
  show (1#64 <<< i).getLsbD j = _
  rw [BitVec.getLsbD_shiftLeft, BitVec.getLsbD_one]
  simp only [hj]
  by_cases h : j = i
  · subst h; simp
  · by_cases h2 : j < i
    · simp [h, h2]
    · have : j - i ≠ 0 := by omega
      simp [h, this]
theorem mem_up (a : Tn) (i : Nat) : Mem a (up a i) := fun j _ hm => by unfold up; rw [bt_or, bt_and, hm]; simp
theorem up_same (a : Tn) {i j : Nat} (hj : j < 64) (h : j ≠ i) : bt (up a i) j = bt a.v j := by
  unfold up; rw [bt_or, bt_and, bt_one hj, decide_eq_false h]; simp
theorem up_turn {a : Tn} {i : Nat} (hi : i < 64) (h : bt a.m i = true) : bt (up a i) i = true := by
  unfold up; rw [bt_or, bt_and, bt_one hi, h]; simp
theorem v_turn {a : Tn} (ha : ok a = true) {i : Nat} (h : bt a.m i = true) : bt a.v i = false :=
  (by decide : ∀ v m : Bool, (v && m) = false → m = true → v = false) _ _ (ok_bit ha i) h

theorem sum_tight {a b : Tn} (ha : ok a = true) (hb : ok b = true) (c : Bool) {i : Nat} (hi : i < 64) (hm : bt (sumM a b c) i = true) : ∃ x y x' y', Mem a x ∧ Mem b y ∧ Mem a x' ∧ Mem b y' ∧ bt (adc x y c) i ≠ bt (adc x' y' c) i := by
  cases h1 : bt a.m i with
  | true =>
    refine ⟨up a i, b.v, a.v, b.v, mem_up a i, mem_v b, mem_v a, mem_v b, ?_⟩
    rw [bt_adc _ _ _ hi, bt_adc _ _ _ hi, up_turn hi h1, v_turn ha h1, carry_congr (x := up a i) (x' := a.v) (y := b.v) (y' := b.v) (fun j hj => up_same a (Nat.lt_trans hj hi) (by omega)) (fun _ _ => rfl)]
    exact (by decide : ∀ p q : Bool, (true ^^ (p ^^ q)) ≠ (false ^^ (p ^^ q))) _ _
  | false =>
    cases h2 : bt b.m i with
    | true =>
      refine ⟨a.v, up b i, a.v, b.v, mem_v a, mem_up b i, mem_v a, mem_v b, ?_⟩
      rw [bt_adc _ _ _ hi, bt_adc _ _ _ hi, up_turn hi h2, v_turn hb h2, carry_congr (x := a.v) (x' := a.v) (y := up b i) (y' := b.v) (fun _ _ => rfl) (fun j hj => up_same b (Nat.lt_trans hj hi) (by omega))]
      exact (by decide : ∀ p q : Bool, (p ^^ (true ^^ q)) ≠ (p ^^ (false ^^ q))) _ _
    | false =>
      refine ⟨mx a, mx b, a.v, b.v, mem_mx a, mem_mx b, mem_v a, mem_v b, ?_⟩
      unfold sumM at hm
      rw [bt_or, bt_or, bt_xor, h1, h2] at hm
      exact (by decide : ∀ p q : Bool, ((p ^^ q) || false || false) = true → p ≠ q) _ _ hm

theorem adc_false (x y : BitVec 64) : adc x y false = x + y := by
  unfold adc
  have : BitVec.setWidth 64 (BitVec.ofBool false) = 0#64 := by decide
  rw [this, BitVec.add_zero]
theorem adc_true (x y : BitVec 64) : adc x (~~~y) true = x - y := by
  unfold adc
  have : BitVec.setWidth 64 (BitVec.ofBool true) = 1#64 := by decide
  rw [this, BitVec.sub_eq_add_neg, BitVec.neg_eq_not_add, BitVec.add_assoc]

theorem ok_zero {a : Tn} (h : ok a = true) : a.v &&& a.m = 0#64 := by
  have h1 : a.v &&& a.m = BitVec.ofInt 64 0 := by simpa [ok] using h
  rw [h1]; rfl
theorem mx_add {a : Tn} (h : ok a = true) : mx a = a.v + a.m := (BitVec.add_eq_or_of_and_eq_zero _ _ (ok_zero h)).symm

theorem add_m {a b : Tn} (ha : ok a = true) (hb : ok b = true) : add' a b = of (adc a.v b.v false) (sumM a b false) := by
  unfold add' sumM
  rw [adc_false, adc_false, mx_add ha, mx_add hb]
  have : a.v + b.v + (a.m + b.m) = a.v + a.m + (b.v + b.m) := by ac_rfl
  rw [this]
theorem add_eq {a b : Tn} (ha : ok a = true) (hb : ok b = true) : add a b = of (adc a.v b.v false) (sumM a b false) := by
  unfold add; rw [right_ok ha, right_ok hb, add_m ha hb]

theorem mem_of {v m x : BitVec 64} (h : ∀ i, i < 64 → bt m i = false → bt x i = bt v i) : Mem (of v m) x := fun i hi hm => by
  have hm : bt m i = false := hm
  show _ = bt (v &&& ~~~m) i
  rw [bt_and, bt_not hi, hm, h i hi hm]; simp

theorem add_op : Op2 (fun x y => x + y) add where
  good a b ha hb := by rw [add_eq ha hb]; exact ok_of' _ _
  sound a b ha hb x y hx hy := by
    rw [add_eq ha hb]
    refine mem_of fun i hi hm => ?_
    rw [← adc_false]
    exact sum_fix ha hb false hi hm hx hy
  tight a b ha hb i hi hm := by
    rw [add_eq ha hb] at hm
    obtain ⟨x, y, x', y', h1, h2, h3, h4, h5⟩ := sum_tight ha hb false hi hm
    exact ⟨x, y, x', y', h1, h2, h3, h4, by rw [← adc_false, ← adc_false]; exact h5⟩

/-- All others of a tnum. -/
def flip (b : Tn) : Tn := ⟨~~~(mx b), b.m⟩
theorem flip_ok (b : Tn) : ok (flip b) = true := ok_of fun i hi => by
  unfold flip mx
  rw [bt_not hi, bt_or]
  exact (by decide : ∀ v m : Bool, (!(v || m) && m) = false) _ _
theorem flip_mx (b : Tn) (hb : ok b = true) : mx (flip b) = ~~~b.v := bext fun i hi => by
  unfold flip mx
  rw [bt_or, bt_not hi, bt_or, bt_not hi]
  exact (by decide : ∀ v m : Bool, (v && m) = false → (!(v || m) || m) = !v) _ _ (ok_bit hb i)
theorem mem_flip {b : Tn} {y : BitVec 64} (h : Mem b y) : Mem (flip b) (~~~y) := fun i hi hm => by
  have hm' : bt b.m i = false := hm
  show _ = bt (~~~(mx b)) i
  unfold mx
  rw [bt_not hi, bt_not hi, bt_or, h i hi hm', hm', Bool.or_false]
theorem flip_mem {b : Tn} {y : BitVec 64} (h : Mem (flip b) y) : Mem b (~~~y) := fun i hi hm => by
  have h1 : bt y i = bt (~~~(mx b)) i := h i hi hm
  rw [bt_not hi, h1, bt_not hi, Bool.not_not]
  exact mem_mx b i hi hm

theorem sub_eq {a b : Tn} (ha : ok a = true) (hb : ok b = true) : sub a b = of (adc a.v (~~~b.v) true) (sumM a (flip b) true) := by
  unfold sub sub' sumM
  rw [right_ok ha, right_ok hb, flip_mx b hb, adc_true, adc_true, mx_add ha]
  have e1 : adc a.v (flip b).v true = a.v - mx b := adc_true _ _
  rw [e1, mx_add hb]
  have e2 : a.v - b.v + a.m = a.v + a.m - b.v := by rw [BitVec.sub_eq_add_neg, BitVec.sub_eq_add_neg]; ac_rfl
  have e3 : a.v - b.v - b.m = a.v - (b.v + b.m) := by rw [BitVec.sub_sub]
  rw [e2, e3]
  rfl

theorem sub_op : Op2 (fun x y => x - y) sub where
  good a b ha hb := by rw [sub_eq ha hb]; exact ok_of' _ _
  sound a b ha hb x y hx hy := by
    rw [sub_eq ha hb]
    refine mem_of fun i hi hm => ?_
    rw [← adc_true]
    rw [sum_fix ha (flip_ok b) true hi hm hx (mem_flip hy), sum_fix ha (flip_ok b) true hi hm (mem_v a) (mem_flip (mem_v b))]
  tight a b ha hb i hi hm := by
    rw [sub_eq ha hb] at hm
    obtain ⟨x, y, x', y', h1, h2, h3, h4, h5⟩ := sum_tight ha (flip_ok b) true hi hm
    refine ⟨x, ~~~y, x', ~~~y', h1, flip_mem h2, h3, flip_mem h4, ?_⟩
    rw [← adc_true, ← adc_true, BitVec.not_not, BitVec.not_not]
    exact h5

/-! ### And, or, xor -/
theorem and_op : Op2 (fun x y => x &&& y) and where
  good a b ha hb := by
    unfold and and'; rw [right_ok ha, right_ok hb]
    refine ok_of fun i hi => ?_
    simp only [bt_and, bt_or, bt_not hi]
    exact (by decide : ∀ p q r s : Bool, ((p && q) && ((p || r) && (q || s) && !(p && q))) = false) _ _ _ _
  sound a b ha hb x y hx hy := by
    unfold and and'; rw [right_ok ha, right_ok hb]
    intro i hi hm
    have h1 := hx i hi
    have h2 := hy i hi
    simp only [bt_and, bt_or, bt_not hi] at hm ⊢
    exact (by decide : ∀ p q r s x y : Bool, ((p || r) && (q || s) && !(p && q)) = false → (r = false → x = p) → (s = false → y = q) → (p && r) = false → (q && s) = false → (x && y) = (p && q)) _ _ _ _ _ _ hm h1 h2 (ok_bit ha i) (ok_bit hb i)
  tight a b ha hb i hi hm := by
    unfold and and' at hm; rw [right_ok ha, right_ok hb] at hm
    refine ⟨mx a, mx b, a.v, b.v, mem_mx a, mem_mx b, mem_v a, mem_v b, ?_⟩
    unfold mx
    simp only [bt_and, bt_or, bt_not hi] at hm ⊢
    exact (by decide : ∀ p q r s : Bool, ((p || r) && (q || s) && !(p && q)) = true → ((p || r) && (q || s)) ≠ (p && q)) _ _ _ _ hm
theorem or_op : Op2 (fun x y => x ||| y) or where
  good a b ha hb := by
    unfold or or'; rw [right_ok ha, right_ok hb]
    refine ok_of fun i hi => ?_
    simp only [bt_and, bt_or, bt_not hi]
    exact (by decide : ∀ p q r s : Bool, ((p || q) && ((r || s) && !(p || q))) = false) _ _ _ _
  sound a b ha hb x y hx hy := by
    unfold or or'; rw [right_ok ha, right_ok hb]
    intro i hi hm
    have h1 := hx i hi
    have h2 := hy i hi
    simp only [bt_and, bt_or, bt_not hi] at hm ⊢
    exact (by decide : ∀ p q r s x y : Bool, ((r || s) && !(p || q)) = false → (r = false → x = p) → (s = false → y = q) → (p && r) = false → (q && s) = false → (x || y) = (p || q)) _ _ _ _ _ _ hm h1 h2 (ok_bit ha i) (ok_bit hb i)
  tight a b ha hb i hi hm := by
    unfold or or' at hm; rw [right_ok ha, right_ok hb] at hm
    refine ⟨mx a, mx b, a.v, b.v, mem_mx a, mem_mx b, mem_v a, mem_v b, ?_⟩
    unfold mx
    simp only [bt_and, bt_or, bt_not hi] at hm ⊢
    exact (by decide : ∀ p q r s : Bool, ((r || s) && !(p || q)) = true → ((p || r) || (q || s)) ≠ (p || q)) _ _ _ _ hm
theorem xor_op : Op2 (fun x y => x ^^^ y) xor where
  good a b ha hb := by
    unfold xor xor'; rw [right_ok ha, right_ok hb]; exact ok_of' _ _
  sound a b ha hb x y hx hy := by
    unfold xor xor'; rw [right_ok ha, right_ok hb]
    refine mem_of fun i hi hm => ?_
    have h1 := hx i hi
    have h2 := hy i hi
    simp only [bt_xor, bt_or] at hm ⊢
    exact (by decide : ∀ p q r s x y : Bool, (r || s) = false → (r = false → x = p) → (s = false → y = q) → (x ^^ y) = (p ^^ q)) _ _ _ _ _ _ hm h1 h2
  tight a b ha hb i hi hm := by
    unfold xor xor' at hm; rw [right_ok ha, right_ok hb] at hm
    have hm : bt (a.m ||| b.m) i = true := hm
    rw [bt_or] at hm
    cases h1 : bt a.m i with
    | true =>
      refine ⟨up a i, b.v, a.v, b.v, mem_up a i, mem_v b, mem_v a, mem_v b, ?_⟩
      simp only [bt_xor, up_turn hi h1, v_turn ha h1]
      exact (by decide : ∀ p : Bool, (true ^^ p) ≠ (false ^^ p)) _
    | false =>
      rw [h1, Bool.false_or] at hm
      refine ⟨a.v, up b i, a.v, b.v, mem_v a, mem_up b i, mem_v a, mem_v b, ?_⟩
      simp only [bt_xor, up_turn hi hm, v_turn hb hm]
      exact (by decide : ∀ p : Bool, (p ^^ true) ≠ (p ^^ false)) _

/-! ### Operations that choose bits -/
def Sel (f : BitVec 64 → BitVec 64) (s : Nat → Option Nat) : Prop := ∀ x i, i < 64 → bt (f x) i = match s i with | some j => bt x j | none => false
def SelLt (s : Nat → Option Nat) : Prop := ∀ i j, i < 64 → s i = some j → j < 64

structure Op1 (f : BitVec 64 → BitVec 64) (F : Tn → Tn) : Prop where
  good : ∀ a, ok a = true → ok (F a) = true
  sound : ∀ a, ok a = true → ∀ x, Mem a x → Mem (F a) (f x)
  tight : ∀ a, ok a = true → ∀ i, i < 64 → bt (F a).m i = true → ∃ x x', Mem a x ∧ Mem a x' ∧ bt (f x) i ≠ bt (f x') i

theorem Op1.rise {f F} (o : Op1 f F) {a c : Tn} (ha : ok a = true) (hc : ok c = true) (h1 : inn a c = true) : inn (F a) (F c) = true := by
  rw [inn_iff (o.good a ha) (o.good c hc)]
  intro i hi hm
  have key : ∀ x, Mem a x → bt (f x) i = bt (F c).v i := fun x hx => o.sound c hc x (inn_mem ha hc h1 hx) i hi hm
  have hm2 : bt (F a).m i = false := by
    cases e : bt (F a).m i with
    | false => rfl
    | true =>
      obtain ⟨x, x', h3, h4, h7⟩ := o.tight a ha i hi e
      exact absurd ((key x h3).trans (key x' h4).symm) h7
  exact ⟨hm2, by rw [← o.sound a ha a.v (mem_v a) i hi hm2]; exact key _ (mem_v a)⟩

theorem sel_op {f s} (h : Sel f s) (hl : SelLt s) {F : Tn → Tn} (hF : ∀ a, ok a = true → F a = ⟨f a.v, f a.m⟩) : Op1 f F where
  good a ha := by
    rw [hF a ha]
    refine ok_of fun i hi => ?_
    show (bt (f a.v) i && bt (f a.m) i) = false
    rw [h _ i hi, h _ i hi]
    cases e : s i with
    | none => rfl
    | some j => exact ok_bit ha j
  sound a ha x hx := by
    rw [hF a ha]
    intro i hi hm
    have hm : bt (f a.m) i = false := hm
    show bt (f x) i = bt (f a.v) i
    rw [h _ i hi] at hm ⊢
    rw [h _ i hi]
    cases e : s i with
    | none => rfl
    | some j => rw [e] at hm; exact hx j (hl i j hi e) hm
  tight a ha i hi hm := by
    rw [hF a ha] at hm
    have hm : bt (f a.m) i = true := hm
    refine ⟨mx a, a.v, mem_mx a, mem_v a, ?_⟩
    rw [h _ i hi] at hm
    rw [h _ i hi, h _ i hi]
    cases e : s i with
    | none => rw [e] at hm; cases hm
    | some j =>
      rw [e] at hm
      have hm : bt a.m j = true := hm
      show bt (mx a) j ≠ bt a.v j
      unfold mx
      rw [bt_or, hm, v_turn ha hm]
      decide

def sl (k i : Nat) : Option Nat := if i < k then none else some (i - k)
def sr (k i : Nat) : Option Nat := if k + i < 64 then some (k + i) else none
def sa (k i : Nat) : Option Nat := if k + i < 64 then some (k + i) else some 63
def sb (k i : Nat) : Option Nat := if 32 ≤ i then none else if k + i < 32 then some (k + i) else some 31
def sw (i : Nat) : Option Nat := if i < 32 then some i else none
theorem lsh_sel (k : Nat) : Sel (fun x => x <<< k) (sl k) := fun x i hi => by
  unfold sl
  show (x <<< k).getLsbD i = _
  rw [BitVec.getLsbD_shiftLeft, decide_eq_true hi, Bool.true_and]
  by_cases h : i < k
  · rw [if_pos h, decide_eq_true h]; rfl
  · rw [if_neg h, decide_eq_false h]; rfl
theorem rsh_sel (k : Nat) : Sel (fun x => x >>> k) (sr k) := fun x i hi => by
  unfold sr
  show (x >>> k).getLsbD i = _
  rw [BitVec.getLsbD_ushiftRight]
  by_cases h : k + i < 64
  · rw [if_pos h]; rfl
  · rw [if_neg h]; exact BitVec.getLsbD_of_ge _ _ (by omega)
theorem sar64_eq {k : Nat} (hk : k ≤ 64) (x : BitVec 64) : sar64 x k = x.sshiftRight k := by
  unfold sar64 BitVec.sshiftRight
  rw [Nat.min_eq_left hk, Int.shiftRight_eq_div_pow, Int.fdiv_eq_ediv_of_nonneg _ (by exact_mod_cast Nat.zero_le (2 ^ k))]
  norm_cast
theorem sar64_sel {k : Nat} (hk : k ≤ 64) : Sel (fun x => sar64 x k) (sa k) := fun x i hi => by
  unfold sa
  show (sar64 x k).getLsbD i = _
  rw [sar64_eq hk, BitVec.getLsbD_sshiftRight, decide_eq_false (by omega), Bool.not_false, Bool.true_and, BitVec.msb_eq_getLsbD_last]
  by_cases h : k + i < 64
  · rw [if_pos h, if_pos h]; rfl
  · rw [if_neg h, if_neg h]; rfl
theorem wrap32 (x : BitVec 64) : IntKind.i32.wrap (x.toNat : Int) = (x.setWidth 32).toInt := by
  rw [BitVec.toInt_setWidth, IntKind.wrap_i32, Int.bmod_def]
  omega
theorem sar32_eq {k : Nat} (hk : k ≤ 32) (x : BitVec 64) : sar32 x k = ((x.setWidth 32).sshiftRight k).setWidth 64 := by
  unfold sar32 BitVec.sshiftRight
  rw [Nat.min_eq_left hk, wrap32, Int.shiftRight_eq_div_pow, Int.fdiv_eq_ediv_of_nonneg _ (by exact_mod_cast Nat.zero_le (2 ^ k))]
  norm_cast
theorem sar32_sel {k : Nat} (hk : k ≤ 32) : Sel (fun x => sar32 x k) (sb k) := fun x i hi => by
  unfold sb
  show (sar32 x k).getLsbD i = _
  rw [sar32_eq hk, BitVec.getLsbD_setWidth, decide_eq_true hi, Bool.true_and, BitVec.getLsbD_sshiftRight]
  by_cases h32 : 32 ≤ i
  · rw [if_pos h32, decide_eq_true h32]; rfl
  · rw [if_neg h32, decide_eq_false h32, Bool.not_false, Bool.true_and, BitVec.msb_eq_getLsbD_last]
    by_cases h : k + i < 32
    · rw [if_pos h, if_pos h, BitVec.getLsbD_setWidth, decide_eq_true h]; rfl
    · rw [if_neg h, if_neg h, BitVec.getLsbD_setWidth]; rfl
theorem lo_sel : Sel lo sw := fun x i hi => by
  unfold sw
  show ((x.setWidth 32).setWidth 64).getLsbD i = _
  rw [BitVec.getLsbD_setWidth, BitVec.getLsbD_setWidth, decide_eq_true hi, Bool.true_and]
  by_cases h : i < 32
  · rw [if_pos h, decide_eq_true h]; rfl
  · rw [if_neg h, decide_eq_false h]; rfl

theorem times64 (n : Int) : (times n 64).toNat < 64 := by have := times_range (n := n) (m := 64) (by decide) (by decide); omega
theorem times32 (n : Int) : (times n 32).toNat < 32 := by have := times_range (n := n) (m := 32) (by decide) (by decide); omega

theorem lsh_op (n : Int) : Op1 (fun x => x <<< (times n 64).toNat) (fun a => lsh a n) := sel_op (lsh_sel _) (fun i j hi e => by
    unfold sl at e
    split at e
    · cases e
    · injection e with e; omega) fun a ha => by unfold lsh lsh'; rw [right_ok ha]
theorem rsh_op (n : Int) : Op1 (fun x => x >>> (times n 64).toNat) (fun a => rsh a n) := sel_op (rsh_sel _) (fun i j hi e => by
    unfold sr at e
    split at e
    · injection e with e; omega
    · cases e) fun a ha => by unfold rsh rsh'; rw [right_ok ha]
theorem arsh_op64 (n : Int) : Op1 (fun x => sar64 x (times n 64).toNat) (fun a => arsh a n true) := sel_op (sar64_sel (Nat.le_of_lt (times64 n))) (fun i j hi e => by
    unfold sa at e
    split at e
    · injection e with e; omega
    · injection e with e; omega) fun a ha => by unfold arsh; rw [right_ok ha]; rfl
theorem arsh_op32 (n : Int) : Op1 (fun x => sar32 x (times n 32).toNat) (fun a => arsh a n false) := sel_op (sar32_sel (Nat.le_of_lt (times32 n))) (fun i j hi e => by
    unfold sb at e
    split at e
    · cases e
    · split at e
      · injection e with e; omega
      · injection e with e; omega) fun a ha => by unfold arsh; rw [right_ok ha]; rfl
theorem low_op : Op1 lo low := sel_op lo_sel (fun i j hi e => by
    unfold sw at e
    split at e
    · injection e with e; omega
    · cases e) fun a ha => by unfold low; rw [right_ok ha]

/-! ### Rising -/
def wid (A : Tn) (x : BitVec 64) : Tn := ⟨A.v &&& ~~~x, A.m ||| x⟩
theorem wid_ok {a : Tn} (ha : ok a = true) (x : BitVec 64) : ok (wid a x) = true := ok_of fun i hi => by
  unfold wid
  rw [bt_and, bt_not hi, bt_or]
  exact (by decide : ∀ v m x : Bool, (v && m) = false → ((v && !x) && (m || x)) = false) _ _ _ (ok_bit ha i)
theorem wid_in {a : Tn} (ha : ok a = true) (x : BitVec 64) : inn a (wid a x) = true := by
  rw [inn_iff ha (wid_ok ha x)]
  intro i hi hm
  unfold wid at hm ⊢
  simp only [bt_and, bt_not hi, bt_or] at hm ⊢
  exact (by decide : ∀ v m x : Bool, (m || x) = false → m = false ∧ v = (v && !x)) _ _ _ hm
theorem join_rise {a b c d : Tn} (ha : ok a = true) (hb : ok b = true) (hc : ok c = true) (hd : ok d = true) (h1 : inn a c = true) (h2 : inn b d = true) : inn (join a b) (join c d) = true := by
  rw [inn_iff (by rw [join_v ha hb]; exact ok_of' _ _) (by rw [join_v hc hd]; exact ok_of' _ _), join_v ha hb, join_v hc hd]
  intro i hi hm
  have k1 := (inn_iff ha hc).1 h1 i hi
  have k2 := (inn_iff hb hd).1 h2 i hi
  simp only [of, bt_and, bt_not hi, bt_or, bt_xor] at hm ⊢
  have c1 : bt c.m i = false := (by decide : ∀ p q r : Bool, (p || q || r) = false → p = false) _ _ _ hm
  have c2 : bt d.m i = false := (by decide : ∀ p q r : Bool, (p || q || r) = false → q = false) _ _ _ hm
  obtain ⟨e1, e2⟩ := k1 c1
  obtain ⟨e3, e4⟩ := k2 c2
  rw [c1, c2] at hm
  rw [c1, c2, e1, e2, e3, e4]
  exact ⟨hm, rfl⟩

/-! ### Two ways to say the same -/
theorem range_two (a b : BitVec 64) : (bif BitVec.ult b a then some (tA unknown, ([] : Hp)) else bif decide (len64 (a ^^^ b) = 64) then some (tA unknown, []) else bif decide (len64 (a ^^^ b) < 0) then none else some (tA (of a ((BitVec.ofInt 64 1 <<< (len64 (a ^^^ b)).toNat) - BitVec.ofInt 64 1)), [])) = some (tA (range a b), []) := by
  have h1 : 0 ≤ len64 (a ^^^ b) := Int.natCast_nonneg _
  have h0 : decide (len64 (a ^^^ b) < 0) = false := decide_eq_false (by omega)
  rw [h0]
  simp only [range]
  cases BitVec.ult b a with
  | true => rfl
  | false =>
    by_cases h : len64 (a ^^^ b) = 64
    · rw [decide_eq_true h, h]
      have e : (BitVec.ofInt 64 1 <<< (64 : Int).toNat) - BitVec.ofInt 64 1 = full := by decide
      have e2 : a &&& ~~~full = BitVec.ofInt 64 0 := by
        have : ~~~full = 0#64 := by decide
        rw [this, BitVec.and_zero]; rfl
      simp only [cond_true, cond_false, e, of, e2]
      rfl
    · rw [decide_eq_false h]; rfl
theorem meet_two (a b : Tn) : (bif !((((right a).v ^^^ (right b).v) &&& ~~~(right a).m) &&& ~~~(right b).m == BitVec.ofInt 64 0) then some (tbA ⟨BitVec.ofInt 64 0, BitVec.ofInt 64 0⟩ false, ([] : Hp)) else some (tbA (of ((right a).v ||| (right b).v) ((right a).m &&& (right b).m)) true, [])) = some (tbA (meet a b) (meetOk a b), []) := by
  have ha := ok_right' a
  have hb := ok_right' b
  have e : ((((right a).v ^^^ (right b).v) &&& ~~~(right a).m) &&& ~~~(right b).m == BitVec.ofInt 64 0) = meetB (right a) (right b) := by
    rw [Bool.eq_iff_iff, meetB_iff, beq_iff_eq]
    constructor
    · intro h i hi h1 h2
      have := bt_congr h i
      rw [bt_and, bt_and, bt_xor, bt_not hi, bt_not hi, h1, h2, bt_zero] at this
      exact (by decide : ∀ x y : Bool, ((x ^^ y) && !false && !false) = false → x = y) _ _ this
    · intro h
      refine bext fun i hi => ?_
      rw [bt_and, bt_and, bt_xor, bt_not hi, bt_not hi, bt_zero]
      exact (by decide : ∀ x y m n : Bool, (m = false → n = false → x = y) → ((x ^^ y) && !m && !n) = false) _ _ _ _ (h i hi)
  rw [e]
  unfold meet meet' meetOk
  cases hm : meetB (right a) (right b) with
  | false => rfl
  | true =>
    have h1 := meet_ok ha hb (by unfold meetOk; rw [right_ok ha, right_ok hb]; exact hm)
    rw [meet_v ha hb (by unfold meetOk; rw [right_ok ha, right_ok hb]; exact hm)] at h1
    have e2 : of ((right a).v ||| (right b).v) ((right a).m &&& (right b).m) = ⟨(right a).v ||| (right b).v, (right a).m &&& (right b).m⟩ := by
      unfold of
      congr 1
      refine bext fun i hi => ?_
      rw [bt_and, bt_not hi]
      exact (by decide : ∀ v m : Bool, (v && m) = false → (v && !m) = v) _ _ (ok_bit h1 i)
    rw [e2]; rfl
theorem mod_lo (x : BitVec 64) : x % BitVec.ofInt 64 4294967296 = lo x := by
  unfold lo
  apply BitVec.eq_of_toNat_eq
  rw [BitVec.toNat_umod, BitVec.toNat_setWidth, BitVec.toNat_setWidth]
  have : (BitVec.ofInt 64 4294967296).toNat = 2 ^ 32 := by decide
  rw [this]
  have := x.isLt
  omega

def sar32' (x : BitVec 64) (n : Nat) : BitVec 64 := (BitVec.ofInt 32 ((x.setWidth 32).toInt.fdiv (2 ^ (min n 32)))).setWidth 64
theorem sar32'_eq (x : BitVec 64) (n : Nat) : sar32' x n = sar32 x n := by
  unfold sar32' sar32
  rw [wrap32]

end Go.Tn
