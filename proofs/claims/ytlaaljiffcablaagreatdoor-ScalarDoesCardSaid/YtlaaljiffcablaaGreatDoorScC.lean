/-
  Scalars: what a branch leaves, and what is decided, said of words.
-/
import Derived.Test.YtlaaljiffcablaaGreatDoorScB
namespace Go.Sc
open Go Go.Sy Go.Tn
set_option linter.unusedSimpArgs false
set_option linter.unusedVariables false

/-! ### Comparisons and their contraries -/
def valid (op : Int) : Prop := op = 1 ∨ op = 2 ∨ op = 3 ∨ op = 5 ∨ op = 6 ∨ op = 7 ∨ op = 10 ∨ op = 11 ∨ op = 12 ∨ op = 13
theorem valid_of {op : Int} (h : cmpOk op = true) : op = 4 ∨ valid op := by
  unfold cmpOk at h
  by_cases a1 : op < 1
  · rw [decide_eq_true a1] at h; cases h
  by_cases a2 : 13 < op
  · rw [decide_eq_false a1, decide_eq_true a2] at h; cases h
  by_cases a3 : op = 8
  · subst a3; cases h
  by_cases a4 : op = 9
  · subst a4; cases h
  unfold valid
  omega
theorem c64_1 (x y : BitVec 64) : c64 1 x y = (x == y) := rfl
theorem c64_5 (x y : BitVec 64) : c64 5 x y = !(x == y) := rfl
theorem c64_2 (x y : BitVec 64) : c64 2 x y = BitVec.ult y x := rfl
theorem c64_3 (x y : BitVec 64) : c64 3 x y = BitVec.ule y x := rfl
theorem c64_10 (x y : BitVec 64) : c64 10 x y = BitVec.ult x y := rfl
theorem c64_11 (x y : BitVec 64) : c64 11 x y = BitVec.ule x y := rfl
theorem c64_4 (x y : BitVec 64) : c64 4 x y = !(x &&& y == zW) := rfl
theorem c64_6 (x y : BitVec 64) : c64 6 x y = decide (y.toInt < x.toInt) := rfl
theorem c64_7 (x y : BitVec 64) : c64 7 x y = decide (y.toInt ≤ x.toInt) := rfl
theorem c64_12 (x y : BitVec 64) : c64 12 x y = decide (x.toInt < y.toInt) := rfl
theorem c64_13 (x y : BitVec 64) : c64 13 x y = decide (x.toInt ≤ y.toInt) := rfl
theorem nult (x y : BitVec 64) : BitVec.ule x y = !BitVec.ult y x := by
  simp only [BitVec.ult, BitVec.ule]
  by_cases h : x.toNat ≤ y.toNat
  · rw [decide_eq_true h, decide_eq_false (by omega)]; rfl
  · rw [decide_eq_false h, decide_eq_true (by omega)]; rfl
theorem nlt (a b : Int) : decide (a ≤ b) = !decide (b < a) := by
  by_cases h : a ≤ b
  · rw [decide_eq_true h, decide_eq_false (by omega)]; rfl
  · rw [decide_eq_false h, decide_eq_true (by omega)]; rfl
theorem sw_2 (x y : BitVec 64) : c64 2 x y = c64 10 y x := by rw [c64_2, c64_10]
theorem sw_3 (x y : BitVec 64) : c64 3 x y = c64 11 y x := by rw [c64_3, c64_11]
theorem sw_6 (x y : BitVec 64) : c64 6 x y = c64 12 y x := by rw [c64_6, c64_12]
theorem sw_7 (x y : BitVec 64) : c64 7 x y = c64 13 y x := by rw [c64_7, c64_13]
theorem c64_not {op : Int} (h : valid op) (x y : BitVec 64) : c64 (contrary op) x y = !c64 op x y := by
  rcases h with rfl | rfl | rfl | rfl | rfl | rfl | rfl | rfl | rfl | rfl
  · rfl
  · show BitVec.ule x y = !BitVec.ult y x; exact nult x y
  · show BitVec.ult x y = !BitVec.ule y x; rw [nult]; simp
  · show (x == y) = !!(x == y); simp
  · show decide (x.toInt ≤ y.toInt) = !decide (y.toInt < x.toInt); exact nlt _ _
  · show decide (x.toInt < y.toInt) = !decide (y.toInt ≤ x.toInt); rw [nlt]; simp
  · show BitVec.ule y x = !BitVec.ult x y; exact nult y x
  · show BitVec.ult y x = !BitVec.ule x y; rw [nult]; simp
  · show decide (y.toInt ≤ x.toInt) = !decide (x.toInt < y.toInt); exact nlt _ _
  · show decide (y.toInt < x.toInt) = !decide (x.toInt ≤ y.toInt); rw [nlt]; simp
theorem valid_contrary {op : Int} (h : valid op) : valid (contrary op) := by
  rcases h with rfl | rfl | rfl | rfl | rfl | rfl | rfl | rfl | rfl | rfl <;> (unfold valid contrary; decide)

/-! ### What holds -/
theorem holds0_1 (p : Pr) : holds0 1 p = same p := by
  show (bif true then same p else _) = _
  rw [cond_true]
theorem holds0_5 (p : Pr) : holds0 5 p = unlike p := by
  show (bif false then _ else bif true then unlike p else _) = _
  rw [cond_false, cond_true]
theorem holds0_10 (p : Pr) : holds0 10 p = less p false := by
  show (bif false then _ else bif false then _ else bif (bif true then true else false) then less p false else _) = _
  rw [cond_false, cond_false, cond_true, cond_true]
theorem holds0_11 (p : Pr) : holds0 11 p = less p true := by
  show (bif false then _ else bif false then _ else bif (bif false then true else true) then less p true else _) = _
  rw [cond_false, cond_false, cond_false, cond_true]
theorem holds0_12 (p : Pr) : holds0 12 p = lessS p false := by
  show (bif false then _ else bif false then _ else bif (bif false then true else false) then _ else lessS p false) = _
  rw [cond_false, cond_false, cond_false, cond_false]
theorem holds0_13 (p : Pr) : holds0 13 p = lessS p true := by
  show (bif false then _ else bif false then _ else bif (bif false then true else false) then _ else lessS p true) = _
  rw [cond_false, cond_false, cond_false, cond_false]
theorem holds_base {op : Int} (p : Pr) (h : base0 op = true) : holds op p = holds0 op p := by unfold holds; rw [h, cond_true]
theorem holds_other {op o : Int} (p : Pr) (h : base0 op = false) (ho : turned op = o) : holds op p = swapP (holds0 o ⟨p.b, p.a, false⟩) := by unfold holds; rw [h, cond_false, ho]
section
variable {p : Pr} {x y : BitVec 64}
theorem holds0_has {op : Int} (ga : Good p.a) (gb : Good p.b) (hx : Has p.a x) (hy : Has p.b y) (hn : p.n = false) (hb : op = 1 ∨ op = 5 ∨ op = 10 ∨ op = 11 ∨ op = 12 ∨ op = 13) (h : c64 op x y = true) :
    (holds0 op p).n = false ∧ Has (holds0 op p).a x ∧ Has (holds0 op p).b y := by
  rcases hb with rfl | rfl | rfl | rfl | rfl | rfl
  · have : x = y := eq_of_beq h
    subst this; rw [holds0_1]; exact same_has ga gb hx hy
  · have : x ≠ y := by
      rw [c64_5] at h
      intro e; rw [e] at h; simp at h
    rw [holds0_5]; exact unlike_has ga gb hx hy this hn
  · rw [holds0_10]; exact less_has hx hy false (ult_iff.1 h) hn
  · rw [holds0_11]; exact less_has hx hy true (ule_iff.1 h) hn
  · rw [holds0_12]; exact lessS_has ga gb hx hy false (show x.toInt < y.toInt from of_decide_eq_true h) hn
  · rw [holds0_13]; exact lessS_has ga gb hx hy true (show x.toInt ≤ y.toInt from of_decide_eq_true h) hn
theorem holds0_ps {op : Int} (ga : Good p.a) (gb : Good p.b) (hb : op = 1 ∨ op = 5 ∨ op = 10 ∨ op = 11 ∨ op = 12 ∨ op = 13) (h : (holds0 op p).n = false) : PS (holds0 op p) p := by
  rcases hb with rfl | rfl | rfl | rfl | rfl | rfl
  · rw [holds0_1] at h ⊢; exact same_ps ga gb h
  · rw [holds0_5] at h ⊢; exact unlike_ps ga gb h
  · rw [holds0_10] at h ⊢; exact less_ps ga gb false h
  · rw [holds0_11] at h ⊢; exact less_ps ga gb true h
  · rw [holds0_12] at h ⊢; exact lessS_ps ga gb false h
  · rw [holds0_13] at h ⊢; exact lessS_ps ga gb true h
theorem holds_has {op : Int} (ga : Good p.a) (gb : Good p.b) (hx : Has p.a x) (hy : Has p.b y) (hn : p.n = false) (hv : valid op) (h : c64 op x y = true) :
    (holds op p).n = false ∧ Has (holds op p).a x ∧ Has (holds op p).b y := by
  rcases hv with rfl | rfl | rfl | rfl | rfl | rfl | rfl | rfl | rfl | rfl
  · rw [holds_base p (by decide)]; exact holds0_has (op := 1) ga gb hx hy hn (by decide) h
  · rw [sw_2] at h
    obtain ⟨h1, h2, h3⟩ := holds0_has (p := ⟨p.b, p.a, false⟩) (op := 10) gb ga hy hx rfl (by decide) (x := y) (y := x) h
    rw [holds_other (o := 10) p (by decide) (by decide)]
    exact ⟨h1, h3, h2⟩
  · rw [sw_3] at h
    obtain ⟨h1, h2, h3⟩ := holds0_has (p := ⟨p.b, p.a, false⟩) (op := 11) gb ga hy hx rfl (by decide) (x := y) (y := x) h
    rw [holds_other (o := 11) p (by decide) (by decide)]
    exact ⟨h1, h3, h2⟩
  · rw [holds_base p (by decide)]; exact holds0_has (op := 5) ga gb hx hy hn (by decide) h
  · rw [sw_6] at h
    obtain ⟨h1, h2, h3⟩ := holds0_has (p := ⟨p.b, p.a, false⟩) (op := 12) gb ga hy hx rfl (by decide) (x := y) (y := x) h
    rw [holds_other (o := 12) p (by decide) (by decide)]
    exact ⟨h1, h3, h2⟩
  · rw [sw_7] at h
    obtain ⟨h1, h2, h3⟩ := holds0_has (p := ⟨p.b, p.a, false⟩) (op := 13) gb ga hy hx rfl (by decide) (x := y) (y := x) h
    rw [holds_other (o := 13) p (by decide) (by decide)]
    exact ⟨h1, h3, h2⟩
  · rw [holds_base p (by decide)]; exact holds0_has (op := 10) ga gb hx hy hn (by decide) h
  · rw [holds_base p (by decide)]; exact holds0_has (op := 11) ga gb hx hy hn (by decide) h
  · rw [holds_base p (by decide)]; exact holds0_has (op := 12) ga gb hx hy hn (by decide) h
  · rw [holds_base p (by decide)]; exact holds0_has (op := 13) ga gb hx hy hn (by decide) h
theorem PS.swap {q r : Pr} (h : PS q ⟨r.b, r.a, false⟩) : PS (swapP q) r := ⟨h.b, h.a, h.rb, h.ra, h.ob, h.oa⟩
theorem holds_ps {op : Int} (ga : Good p.a) (gb : Good p.b) (hv : valid op) (h : (holds op p).n = false) : PS (holds op p) p := by
  rcases hv with rfl | rfl | rfl | rfl | rfl | rfl | rfl | rfl | rfl | rfl
  · rw [holds_base p (by decide)] at h ⊢; exact holds0_ps (op := 1) ga gb (by decide) h
  · rw [holds_other (o := 10) p (by decide) (by decide)] at h ⊢; exact (holds0_ps (p := ⟨p.b, p.a, false⟩) (op := 10) gb ga (by decide) h).swap
  · rw [holds_other (o := 11) p (by decide) (by decide)] at h ⊢; exact (holds0_ps (p := ⟨p.b, p.a, false⟩) (op := 11) gb ga (by decide) h).swap
  · rw [holds_base p (by decide)] at h ⊢; exact holds0_ps (op := 5) ga gb (by decide) h
  · rw [holds_other (o := 12) p (by decide) (by decide)] at h ⊢; exact (holds0_ps (p := ⟨p.b, p.a, false⟩) (op := 12) gb ga (by decide) h).swap
  · rw [holds_other (o := 13) p (by decide) (by decide)] at h ⊢; exact (holds0_ps (p := ⟨p.b, p.a, false⟩) (op := 13) gb ga (by decide) h).swap
  · rw [holds_base p (by decide)] at h ⊢; exact holds0_ps (op := 10) ga gb (by decide) h
  · rw [holds_base p (by decide)] at h ⊢; exact holds0_ps (op := 11) ga gb (by decide) h
  · rw [holds_base p (by decide)] at h ⊢; exact holds0_ps (op := 12) ga gb (by decide) h
  · rw [holds_base p (by decide)] at h ⊢; exact holds0_ps (op := 13) ga gb (by decide) h
theorem goes_has {op : Int} {t : Bool} (ga : Good p.a) (gb : Good p.b) (hx : Has p.a x) (hy : Has p.b y) (hn : p.n = false) (hv : op = 4 ∨ valid op) (h : c64 op x y = t) :
    (goes op t p).n = false ∧ Has (goes op t p).a x ∧ Has (goes op t p).b y := by
  rcases hv with rfl | hv
  · cases t with
    | true =>
      have : x &&& y ≠ zW := by
        rw [c64_4] at h
        intro e; rw [e] at h; cases h
      exact ⟨common_has hx hy this, hx, hy⟩
    | false =>
      have : x &&& y = zW := by
        rw [c64_4] at h
        exact eq_of_beq (by simpa using h)
      exact apart_has ga gb hx hy this hn
  · have h4 : op ≠ 4 := by rintro rfl; revert hv; unfold valid; decide
    unfold goes
    rw [decide_eq_false h4]
    cases t with
    | true => exact holds_has ga gb hx hy hn hv h
    | false => exact holds_has ga gb hx hy hn (valid_contrary hv) (by rw [c64_not hv, h]; rfl)
theorem goes_ps {op : Int} {t : Bool} (ga : Good p.a) (gb : Good p.b) (hv : op = 4 ∨ valid op) (h : (goes op t p).n = false) : PS (goes op t p) p := by
  rcases hv with rfl | hv
  · cases t with
    | true =>
      have q := ps_self ga gb
      exact ⟨q.a, q.b, q.ra, q.rb, q.oa, q.ob⟩
    | false => exact apart_ps ga gb h
  · have h4 : op ≠ 4 := by rintro rfl; revert hv; unfold valid; decide
    unfold goes at h ⊢
    rw [decide_eq_false h4] at h ⊢
    cases t with
    | true => exact holds_ps ga gb hv h
    | false => exact holds_ps ga gb (valid_contrary hv) h
end

/-! ### What is decided -/
theorem dec1_right {op : Int} {a b : Sc} {x y : BitVec 64} (hx : Has a x) (hy : Has b y) (ho : op = 10 ∨ op = 11 ∨ op = 12 ∨ op = 13) (h : (dec1 op a b).1 = true) : (dec1 op a b).2 = c64 op x y := by
  have x1 := hx.u; have x2 := hx.U; have x3 := hx.s; have x4 := hx.S
  have y1 := hy.u; have y2 := hy.U; have y3 := hy.s; have y4 := hy.S
  unfold dec1 at h ⊢
  cases hb : below op a b with
  | true =>
    rcases ho with rfl | rfl | rfl | rfl
    · have := ult_iff.1 hb; exact (ult_iff.2 (by omega)).symm
    · have := ule_iff.1 hb; exact (ule_iff.2 (by omega)).symm
    · have := of_decide_eq_true hb; exact (decide_eq_true (by omega)).symm
    · have := of_decide_eq_true hb; exact (decide_eq_true (by omega)).symm
  | false =>
    rw [hb] at h
    simp only [cond_false] at h ⊢
    rcases ho with rfl | rfl | rfl | rfl
    · have := ule_iff.1 (show BitVec.ule b.U a.u = true from h); exact (ult_not.2 (by omega)).symm
    · have := ult_iff.1 (show BitVec.ult b.U a.u = true from h)
      show false = BitVec.ule x y
      rw [nult, ult_iff.2 (by omega)]; rfl
    · have := of_decide_eq_true (show decide (b.S ≤ a.s) = true from h); exact (decide_eq_false (by omega)).symm
    · have := of_decide_eq_true (show decide (b.S < a.s) = true from h); exact (decide_eq_false (by omega)).symm

theorem and_known {a b : Sc} {x y : BitVec 64} (oa : ok a.t = true) (ob : ok b.t = true) (hx : Has a x) (hy : Has b y) (h : x &&& y = zW) : a.t.v &&& b.t.v = zW := bext fun i hi => by
  have h1 := bt_congr h i
  have h2 := bt_congr (eq_of_beq oa) i
  have h3 := bt_congr (eq_of_beq ob) i
  rw [bt_and] at h1 h2 h3 ⊢
  rw [bt_zero] at h1 ⊢
  rw [show bt (BitVec.ofInt 64 0) i = false from bt_zero i] at h2 h3
  exact (by decide : ∀ x v m y w n : Bool, (m = false → x = v) → (n = false → y = w) → (v && m) = false → (w && n) = false → (x && y) = false → (v && w) = false) _ _ _ _ _ _ (hx.t i hi) (hy.t i hi) h2 h3 h1

theorem dec64_sw {op o : Int} (a b : Sc) (h1 : decide (op = 1) = false) (h5 : decide (op = 5) = false) (h4 : decide (op = 4) = false) (h : (bif decide (op = 2) then true else bif decide (op = 3) then true else bif decide (op = 6) then true else decide (op = 7)) = true) (ho : turned op = o) : dec64 op a b = dec1 o b a := by
  unfold dec64; rw [h1, h5, h4, h, ho]; simp only [cond_true, cond_false]
theorem dec64_id {op : Int} (a b : Sc) (h1 : decide (op = 1) = false) (h5 : decide (op = 5) = false) (h4 : decide (op = 4) = false) (h : (bif decide (op = 2) then true else bif decide (op = 3) then true else bif decide (op = 6) then true else decide (op = 7)) = false) : dec64 op a b = dec1 op a b := by
  unfold dec64; rw [h1, h5, h4, h]; simp only [cond_true, cond_false]
theorem dec64_right {op : Int} {a b : Sc} {x y : BitVec 64} (ga : Good a) (gb : Good b) (hx : Has a x) (hy : Has b y) (hv : op = 4 ∨ valid op) (h : (dec64 op a b).1 = true) : (dec64 op a b).2 = c64 op x y := by
  rcases hv with rfl | rfl | rfl | rfl | rfl | rfl | rfl | rfl | rfl | rfl | rfl
  · have e : dec64 4 a b = (bif !(a.t.v &&& b.t.v == zW) then (true, true) else ((a.t.v ||| a.t.m) &&& (b.t.v ||| b.t.m) == zW, false)) := rfl
    rw [e] at h ⊢
    cases hk : (a.t.v &&& b.t.v == zW) with
    | false =>
      show true = c64 4 x y
      rw [c64_4]
      cases hz : (x &&& y == zW) with
      | false => rfl
      | true =>
        have := and_known ga.ok gb.ok hx hy (eq_of_beq hz)
        rw [this] at hk; simp at hk
    | true =>
      rw [hk] at h
      show false = c64 4 x y
      rw [c64_4, and_mx hx hy (eq_of_beq h)]; rfl
  · have e : dec64 1 a b = (!(meetS a b).isSome, bif !(meetS a b).isSome then false else false) := rfl
    rw [e] at h ⊢
    have hne : x ≠ y := by
      rintro rfl
      obtain ⟨m, hm, _⟩ := meetS_has ga gb hx hy
      rw [hm] at h; cases h
    show (bif !(meetS a b).isSome then false else false) = (x == y)
    rw [beq_eq_false_iff_ne.2 hne]; cases (meetS a b).isSome <;> rfl
  · rw [sw_2]; rw [dec64_sw (o := 10) a b rfl rfl rfl rfl rfl] at h ⊢; exact dec1_right hy hx (by decide) h
  · rw [sw_3]; rw [dec64_sw (o := 11) a b rfl rfl rfl rfl rfl] at h ⊢; exact dec1_right hy hx (by decide) h
  · have e : dec64 5 a b = (!(meetS a b).isSome, bif !(meetS a b).isSome then true else false) := rfl
    rw [e] at h ⊢
    have hne : x ≠ y := by
      rintro rfl
      obtain ⟨m, hm, _⟩ := meetS_has ga gb hx hy
      rw [hm] at h; cases h
    show (bif !(meetS a b).isSome then true else false) = !(x == y)
    rw [beq_eq_false_iff_ne.2 hne, show (!(meetS a b).isSome) = true from h]; rfl
  · rw [sw_6]; rw [dec64_sw (o := 12) a b rfl rfl rfl rfl rfl] at h ⊢; exact dec1_right hy hx (by decide) h
  · rw [sw_7]; rw [dec64_sw (o := 13) a b rfl rfl rfl rfl rfl] at h ⊢; exact dec1_right hy hx (by decide) h
  · rw [dec64_id a b rfl rfl rfl rfl] at h ⊢; exact dec1_right hx hy (by decide) h
  · rw [dec64_id a b rfl rfl rfl rfl] at h ⊢; exact dec1_right hx hy (by decide) h
  · rw [dec64_id a b rfl rfl rfl rfl] at h ⊢; exact dec1_right hx hy (by decide) h
  · rw [dec64_id a b rfl rfl rfl rfl] at h ⊢; exact dec1_right hx hy (by decide) h

theorem cmp_wide {op : Int} (h : cmpOk op = true) (x y : BitVec 64) : cmp op true x y = c64 op x y := by unfold cmp; rw [h]; rfl
theorem cmp_part {op : Int} (h : cmpOk op = true) (x y : BitVec 64) : cmp op false x y = cmpU op (lo x) (lo y) (i32 x) (i32 y) := by unfold cmp; rw [h]; rfl
theorem i32_lo (x : BitVec 64) : i32 (lo x) = i32 x := by
  unfold i32
  congr 1
  apply BitVec.eq_of_toNat_eq
  rw [BitVec.toNat_setWidth, BitVec.toNat_setWidth, lo_nat]; omega
theorem cmp_lo {op : Int} (h : cmpOk op = true) (x y : BitVec 64) : cmp op false (lo x) (lo y) = cmp op false x y := by
  rw [cmp_part h, cmp_part h, lo_lo, lo_lo, i32_lo, i32_lo]
theorem i32_small {x : BitVec 64} (h : x.toNat ≤ 2147483647) : i32 x = x.toInt := by
  unfold i32
  rw [BitVec.toInt_eq_toNat_cond, BitVec.toInt_eq_toNat_cond, BitVec.toNat_setWidth]
  have := x.isLt
  split <;> split <;> omega
theorem narrow_lt {k : Sc} {x : BitVec 64} (h : narrow k = true) (hx : Has k x) : x.toNat ≤ 2147483647 := by
  have h1 := ule_iff.1 h
  have : m31.toNat = 2147483647 := by decide
  have := hx.U
  omega
theorem lo_small {x : BitVec 64} (h : x.toNat ≤ 2147483647) : lo x = x := BitVec.eq_of_toNat_eq (by rw [lo_nat]; omega)
theorem cmp_small {op : Int} (h : cmpOk op = true) {x y : BitVec 64} (hx : x.toNat ≤ 2147483647) (hy : y.toNat ≤ 2147483647) : cmp op false x y = c64 op x y := by
  rw [cmp_part h, lo_small hx, lo_small hy, i32_small hx, i32_small hy]; rfl

theorem dec'_right {op : Int} {w : Bool} {a b : Sc} {x y : BitVec 64} (ga : Good a) (gb : Good b) (hx : Has a x) (hy : Has b y) (hc : cmpOk op = true) (h : (dec' op w a b).1 = true) : (dec' op w a b).2 = cmp op w x y := by
  unfold dec' at h ⊢
  cases hk : (bif isConst a then isConst b else false) with
  | true =>
    have h1 : isConst a = true := by cases ha : isConst a with
      | true => rfl
      | false => rw [ha] at hk; cases hk
    have h2 : isConst b = true := by rw [h1] at hk; exact hk
    rw [const_uniq ga h1 hx, const_uniq gb h2 hy]; rfl
  | false =>
    rw [hk] at h
    simp only [cond_false] at h ⊢
    cases w with
    | true =>
      rw [cmp_wide hc]
      exact dec64_right ga gb hx hy (valid_of hc) h
    | false =>
      cases hn : (bif narrow a then narrow b else false) with
      | false => rw [hn] at h; cases h
      | true =>
        rw [hn] at h
        have h1 : narrow a = true := by cases ha : narrow a with
          | true => rfl
          | false => rw [ha] at hn; cases hn
        have h2 : narrow b = true := by rw [h1] at hn; exact hn
        rw [cmp_small hc (narrow_lt h1 hx) (narrow_lt h2 hy)]
        exact dec64_right ga gb hx hy (valid_of hc) h
theorem decided_right {op : Int} {w : Bool} {a b : Sc} {x y : BitVec 64} (ga : Good a) (gb : Good b) (hx : Has a x) (hy : Has b y) (hc : cmpOk op = true) (h : (decided op w a b).1 = true) : (decided op w a b).2 = cmp op w x y := by
  unfold decided at h ⊢
  rw [hc, right_of ga.st, right_of gb.st] at h
  rw [hc, right_of ga.st, right_of gb.st]
  cases w with
  | true => exact dec'_right ga gb hx hy hc h
  | false =>
    have := dec'_right (low_good a) (low_good b) (low_hr hx).1 (low_hr hy).1 hc h
    rw [cmp_lo hc] at this
    exact this

/-! ### Branches -/
theorem close2_in {p q : Pr} (ps : PS p q) (hn : p.n = false) (gq : Good q.a) (gr : Good q.b) {s u : Sc} (h : close2 p = some (s, u)) : Good s ∧ Good u ∧ Sub s q.a ∧ Sub u q.b := by
  unfold close2 at h
  rw [hn] at h
  simp only [cond_false] at h
  cases ha : sync p.a with
  | none => rw [ha] at h; cases h
  | some a =>
    cases hb : sync p.b with
    | none => rw [ha, hb] at h; cases h
    | some b =>
      rw [ha, hb] at h
      injection h with h
      injection h with h1 h2
      subst h1; subst h2
      obtain ⟨a1, a2, a3⟩ := sync_some _ ha
      obtain ⟨b1, b2, b3⟩ := sync_some _ hb
      exact ⟨⟨a1, sync_rg _ ps.ra _ ha⟩, ⟨b1, sync_rg _ ps.rb _ hb⟩, a2.trans a1.live.ok ps.oa gq.ok ps.a, b2.trans b1.live.ok ps.ob gr.ok ps.b⟩
theorem branch_in {op : Int} {w t : Bool} {a b s u : Sc} (ga : Good a) (gb : Good b) (hc : cmpOk op = true) (h : branch op w t a b = some (s, u)) : Good s ∧ Good u ∧ Sub s a ∧ Sub u b := by
  unfold branch at h
  rw [right_of ga.st, right_of gb.st] at h
  unfold branch' at h
  rw [hc] at h
  simp only [Bool.not_true, cond_false] at h
  cases hd : (bif (decided op w a b).1 then (decided op w a b).2 != t else false) with
  | true => rw [hd] at h; cases h
  | false =>
    rw [hd] at h
    simp only [cond_false] at h
    cases hw : (bif !w then !(bif narrow a then narrow b else false) else false) with
    | true =>
      rw [hw] at h
      injection h with h
      injection h with h1 h2
      subst h1; subst h2
      exact ⟨ga, gb, Sub.refl ga.ok, Sub.refl gb.ok⟩
    | false =>
      rw [hw] at h
      simp only [cond_false] at h
      cases hn : (goes op t ⟨a, b, false⟩).n with
      | true => unfold close2 at h; rw [hn] at h; cases h
      | false => exact close2_in (goes_ps (p := ⟨a, b, false⟩) ga gb (valid_of hc) hn) hn ga gb h
theorem branch_has {op : Int} {w t : Bool} {a b : Sc} {x y : BitVec 64} (ga : Good a) (gb : Good b) (hx : Has a x) (hy : Has b y) (hc : cmpOk op = true) (h : cmp op w x y = t) : ∃ s u, branch op w t a b = some (s, u) ∧ Has s x ∧ Has u y := by
  unfold branch
  rw [right_of ga.st, right_of gb.st]
  unfold branch'
  rw [hc]
  simp only [Bool.not_true, cond_false]
  have hd : (bif (decided op w a b).1 then (decided op w a b).2 != t else false) = false := by
    cases h1 : (decided op w a b).1 with
    | false => rfl
    | true => simp only [cond_true]; rw [decided_right ga gb hx hy hc h1, h]; simp
  rw [hd]
  simp only [cond_false]
  cases hw : (bif !w then !(bif narrow a then narrow b else false) else false) with
  | true => exact ⟨a, b, rfl, hx, hy⟩
  | false =>
    simp only [cond_false]
    have h64 : c64 op x y = t := by
      cases w with
      | true => rw [← cmp_wide hc]; exact h
      | false =>
        have h1 : narrow a = true := by cases ha : narrow a with
          | true => rfl
          | false => rw [ha] at hw; cases hw
        have h2 : narrow b = true := by
          rw [h1] at hw
          cases hb : narrow b with
          | true => rfl
          | false => rw [hb] at hw; cases hw
        rw [← cmp_small hc (narrow_lt h1 hx) (narrow_lt h2 hy)]; exact h
    obtain ⟨g1, g2, g3⟩ := goes_has (p := ⟨a, b, false⟩) ga gb hx hy rfl (valid_of hc) h64
    have ps := goes_ps (p := ⟨a, b, false⟩) ga gb (valid_of hc) g1
    obtain ⟨s, s1, _, s2, s3, _⟩ := synced_has ps.ra g2
    obtain ⟨u, u1, _, u2, u3, _⟩ := synced_has ps.rb g3
    refine ⟨s, u, ?_, s3, u3⟩
    unfold close2
    rw [g1, s1, u1]; rfl
end Go.Sc
