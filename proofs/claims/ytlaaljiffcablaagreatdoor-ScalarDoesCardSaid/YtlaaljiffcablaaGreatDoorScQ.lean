/-
  Bringing a scalar's parts together: it ends, it narrows, it loses no number, and what is stable below stays below.
-/
import Derived.Test.YtlaaljiffcablaaGreatDoorScP
namespace Go.Sc
open Go Go.Sy Go.Tn

structure Rg (k : Sc) : Prop where
  a : iMin ≤ k.s
  b : k.s ≤ iMax
  c : iMin ≤ k.S
  d : k.S ≤ iMax

structure Has (k : Sc) (n : BitVec 64) : Prop where
  ok : Tn.ok k.t = true
  t : Mem k.t n
  u : k.u.toNat ≤ n.toNat
  U : n.toNat ≤ k.U.toNat
  s : k.s ≤ n.toInt
  S : n.toInt ≤ k.S

structure Live (k : Sc) : Prop where
  ok : Tn.ok k.t = true
  u : k.u.toNat ≤ k.U.toNat
  s : k.s ≤ k.S

theorem Has.live {k : Sc} {n : BitVec 64} (h : Has k n) : Live k := ⟨h.ok, Nat.le_trans h.u h.U, Int.le_trans h.s h.S⟩

theorem none_iff {k : Sc} : none' k = false ↔ Live k := by
  unfold none'
  constructor
  · intro h
    cases h1 : ok k.t with
    | false => rw [h1] at h; cases h
    | true =>
      cases h2 : BitVec.ult k.U k.u with
      | true => rw [h1, h2] at h; cases h
      | false =>
        rw [h1, h2] at h
        simp at h
        exact ⟨h1, ult_not.1 h2, h⟩
  · intro h
    rw [h.ok, ult_not.2 h.u]
    simp [h.s]

theorem inn_refl {a : Tn} (h : ok a = true) : Tn.inn a a = true := (inn_iff h h).2 fun _ _ hm => ⟨hm, rfl⟩
theorem inn_trans {a b c : Tn} (ha : ok a = true) (hb : ok b = true) (hc : ok c = true) (h1 : Tn.inn a b = true) (h2 : Tn.inn b c = true) : Tn.inn a c = true :=
  inn_of_mem ha hc fun _ hx => inn_mem hb hc h2 (inn_mem ha hb h1 hx)

structure Sub (a b : Sc) : Prop where
  t : Tn.inn a.t b.t = true
  u : b.u.toNat ≤ a.u.toNat
  U : a.U.toNat ≤ b.U.toNat
  s : b.s ≤ a.s
  S : a.S ≤ b.S

theorem Sub.refl {a : Sc} (h : ok a.t = true) : Sub a a := ⟨inn_refl h, Nat.le_refl _, Nat.le_refl _, Int.le_refl _, Int.le_refl _⟩
theorem Sub.trans {a b c : Sc} (ha : ok a.t = true) (hb : ok b.t = true) (hc : ok c.t = true) (h1 : Sub a b) (h2 : Sub b c) : Sub a c :=
  ⟨inn_trans ha hb hc h1.t h2.t, Nat.le_trans h2.u h1.u, Nat.le_trans h1.U h2.U, Int.le_trans h2.s h1.s, Int.le_trans h1.S h2.S⟩
theorem Sub.live {a b : Sc} (h : Sub a b) (ha : Live a) (hb : ok b.t = true) : Live b :=
  ⟨hb, Nat.le_trans h.u (Nat.le_trans ha.u h.U), Int.le_trans h.s (Int.le_trans ha.s h.S)⟩
theorem Sub.has {a b : Sc} (h : Sub a b) (hb : ok b.t = true) {n : BitVec 64} (ha : Has a n) : Has b n :=
  ⟨hb, inn_mem ha.ok hb h.t ha.t, Nat.le_trans h.u ha.u, Nat.le_trans ha.U h.U, Int.le_trans h.s ha.s, Int.le_trans ha.S h.S⟩

theorem inn_m {a b : Tn} (ha : ok a = true) (hb : ok b = true) (h : Tn.inn a b = true) : a.m.toNat ≤ b.m.toNat ∧ (a.m.toNat = b.m.toNat → a = b) := by
  rw [inn_iff ha hb] at h
  have e : a.m = a.m &&& b.m := bext fun i hi => by
    rw [bt_and]
    exact (by decide : ∀ x y z w : Bool, (y = false → x = false ∧ z = w) → x = (x && y)) _ _ _ _ (h i hi)
  refine ⟨?_, fun he => ?_⟩
  · rw [e, BitVec.toNat_and]; exact Nat.and_le_right
  · have hm : a.m = b.m := BitVec.eq_of_toNat_eq he
    have hv : a.v = b.v := bext fun i hi => by
      have h1 := h i hi
      rw [hm] at h1
      have h2 := ok_bit ha i
      rw [hm] at h2
      exact (by decide : ∀ x y w : Bool, (y = false → y = false ∧ x = w) → (x && y) = false → (w && y) = false → x = w) _ _ _ h1 h2 (ok_bit hb i)
    cases a; cases b; cases hm; cases hv; rfl

theorem Sub.width {a b : Sc} (h : Sub a b) (ha : Live a) (hb : Live b) : width a ≤ width b ∧ (width a = width b → a = b) := by
  obtain ⟨h1, h2⟩ := inn_m ha.ok hb.ok h.t
  have := h.u; have := h.U; have := h.s; have := h.S; have := ha.u; have := ha.s
  unfold Sc.width
  refine ⟨by omega, fun e => ?_⟩
  have e1 := h2 (by omega)
  have e2 : a.u = b.u := BitVec.eq_of_toNat_eq (by omega)
  have e3 : a.U = b.U := BitVec.eq_of_toNat_eq (by omega)
  have e4 : a.s = b.s := by omega
  have e5 : a.S = b.S := by omega
  cases a; cases b; cases e1; cases e2; cases e3; cases e4; cases e5; rfl

theorem eqS_iff {a b : Sc} : eqS a b = true ↔ a = b := by
  unfold eqS
  constructor
  · intro h
    simp only [Bool.and_eq_true, beq_iff_eq, and_true] at h
    obtain ⟨e1, e2, e3, e4, e5⟩ := h
    have e1 := eqT_iff.1 e1
    cases a; cases b; cases e1; cases e2; cases e3; cases e4; cases e5; rfl
  · rintro rfl
    simp [eqT_iff.2]

/-! ### The four rules narrow -/
theorem byBits_sub {k : Sc} (h : ok k.t = true) : Sub (byBits k) k := ⟨inn_refl h, by simp only [byBits, maxU_nat]; omega, by simp only [byBits, minU_nat]; omega, Int.le_refl _, Int.le_refl _⟩
theorem byRange_live {k : Sc} (h' : Live (byRange k)) : meetOk k.t (range k.u k.U) = true := by
  cases hm : meetOk k.t (range k.u k.U) with
  | true => rfl
  | false =>
    have := h'.u
    unfold byRange at this
    rw [hm] at this
    have this : (BitVec.ofInt 64 1).toNat ≤ (BitVec.ofInt 64 0).toNat := this
    exact absurd this (by decide)
theorem byRange_eq {k : Sc} (h : meetOk k.t (range k.u k.U) = true) : byRange k = ⟨Tn.meet k.t (range k.u k.U), k.u, k.U, k.s, k.S⟩ := by unfold byRange; rw [h]; rfl
theorem byRange_sub {k : Sc} (h : ok k.t = true) (h' : Live (byRange k)) : Sub (byRange k) k := by
  have hm := byRange_live h'
  rw [byRange_eq hm]
  exact ⟨meet_in h (range_ok _ _) hm, Nat.le_refl _, Nat.le_refl _, Int.le_refl _, Int.le_refl _⟩
theorem byPlain_sub {k : Sc} (h : ok k.t = true) : Sub (byPlain k) k := by
  unfold byPlain
  cases decide (0 ≤ (k.u ^^^ k.U).toInt) with
  | false => exact Sub.refl h
  | true => exact ⟨inn_refl h, Nat.le_refl _, Nat.le_refl _, by simp only [cond_true, maxI_eq]; omega, by simp only [cond_true, minI_eq]; omega⟩
theorem bySign_sub {k : Sc} (h : ok k.t = true) : Sub (bySign k) k := by
  unfold bySign
  cases decide (0 ≤ xorI k.s k.S) with
  | false => exact Sub.refl h
  | true => exact ⟨inn_refl h, by simp only [cond_true, maxU_nat]; omega, by simp only [cond_true, minU_nat]; omega, Int.le_refl _, Int.le_refl _⟩

theorem byPlain_t (k : Sc) : (byPlain k).t = k.t := by unfold byPlain; cases decide (0 ≤ (k.u ^^^ k.U).toInt) <;> rfl
theorem bySign_t (k : Sc) : (bySign k).t = k.t := by unfold bySign; cases decide (0 ≤ xorI k.s k.S) <;> rfl

structure Way (k x : Sc) : Prop where
  l0 : Live k
  l1 : Live (byBits k)
  l2 : Live (byRange (byBits k))
  l3 : Live (byPlain (byRange (byBits k)))
  l4 : Live x
  e : x = bySign (byPlain (byRange (byBits k)))

theorem turn_some {k x : Sc} (h : turn k = some x) : Way k x := by
  unfold turn at h
  cases h0 : none' k with
  | true => rw [h0] at h; cases h
  | false =>
    cases h1 : none' (byBits k) with
    | true => rw [h0, h1] at h; cases h
    | false =>
      cases h2 : none' (byRange (byBits k)) with
      | true => rw [h0, h1, h2] at h; cases h
      | false =>
        cases h3 : none' (byPlain (byRange (byBits k))) with
        | true => rw [h0, h1, h2, h3] at h; cases h
        | false =>
          cases h4 : none' (bySign (byPlain (byRange (byBits k)))) with
          | true => rw [h0, h1, h2, h3, h4] at h; cases h
          | false =>
            rw [h0, h1, h2, h3, h4] at h
            simp only [cond_false, Option.some.injEq] at h
            subst h
            exact ⟨none_iff.1 h0, none_iff.1 h1, none_iff.1 h2, none_iff.1 h3, none_iff.1 h4, rfl⟩

theorem turn_of {k : Sc} (h0 : Live k) (h1 : Live (byBits k)) (h2 : Live (byRange (byBits k))) (h3 : Live (byPlain (byRange (byBits k)))) (h4 : Live (bySign (byPlain (byRange (byBits k))))) :
    turn k = some (bySign (byPlain (byRange (byBits k)))) := by
  unfold turn
  rw [none_iff.2 h0, none_iff.2 h1, none_iff.2 h2, none_iff.2 h3, none_iff.2 h4]
  rfl

theorem Way.subs {k x : Sc} (w : Way k x) : Sub x (byPlain (byRange (byBits k))) ∧ Sub (byPlain (byRange (byBits k))) (byRange (byBits k)) ∧ Sub (byRange (byBits k)) (byBits k) ∧ Sub (byBits k) k := by
  refine ⟨?_, byPlain_sub w.l2.ok, byRange_sub w.l1.ok w.l2, byBits_sub w.l0.ok⟩
  rw [w.e]; exact bySign_sub w.l3.ok

theorem Way.sub {k x : Sc} (w : Way k x) : Sub x k := by
  obtain ⟨a, b, c, d⟩ := w.subs
  exact ((a.trans w.l4.ok w.l3.ok w.l2.ok b).trans w.l4.ok w.l2.ok w.l1.ok c).trans w.l4.ok w.l1.ok w.l0.ok d

/-! ### It ends -/
theorem syncE_ends : ∀ (n : Nat) (k : Sc), width k < n → ∃ r, syncE n k = some r
  | 0, k, h => by omega
  | n + 1, k, h => by
    unfold syncE
    cases ht : turn k with
    | none => exact ⟨none, rfl⟩
    | some x =>
      simp only []
      cases he : eqS x k with
      | true => exact ⟨some x, rfl⟩
      | false =>
        have w := turn_some ht
        obtain ⟨h1, h2⟩ := w.sub.width w.l4 w.l0
        have hne : width x ≠ width k := fun e => by rw [eqS_iff.2 (h2 e)] at he; cases he
        exact syncE_ends n x (by omega)
theorem syncE_succ : ∀ (n : Nat) (k : Sc) (r : Option Sc), syncE n k = some r → syncE (n + 1) k = some r
  | 0, k, r, h => by cases h
  | n + 1, k, r, h => by
    unfold syncE at h ⊢
    cases ht : turn k with
    | none => rw [ht] at h; exact h
    | some x =>
      rw [ht] at h
      simp only [] at h ⊢
      cases he : eqS x k with
      | true => rw [he] at h; exact h
      | false => rw [he] at h; exact syncE_succ n x r h
theorem syncE_le {n m : Nat} {k : Sc} {r : Option Sc} (h : n ≤ m) (hn : syncE n k = some r) : syncE m k = some r := by
  obtain ⟨d, rfl⟩ := Nat.exists_eq_add_of_le h
  clear h
  induction d with
  | zero => exact hn
  | succ d ih => exact syncE_succ _ _ _ ih
theorem syncE_sync (k : Sc) : syncE (fuel k) k = some (sync k) := by
  obtain ⟨r, h⟩ := syncE_ends (fuel k) k (by rw [fuel_eq]; omega)
  unfold sync
  rw [h]; rfl
theorem sync_of {n : Nat} {k : Sc} {r : Option Sc} (h : syncE n k = some r) : sync k = r := by
  have h1 := syncE_sync k
  rcases Nat.le_total n (fuel k) with hl | hl
  · rw [syncE_le hl h] at h1; injection h1 with h1; exact h1.symm
  · rw [syncE_le hl h1] at h; injection h
theorem sync_none {k : Sc} (h : turn k = none) : sync k = none := sync_of (n := 1) (by unfold syncE; rw [h])
theorem sync_fix {k : Sc} (h : turn k = some k) : sync k = some k := sync_of (n := 1) (by unfold syncE; rw [h]; simp only [eqS_iff.2, cond_true])
theorem sync_step {k x : Sc} (h : turn k = some x) : sync k = sync x := by
  cases he : eqS x k with
  | true => rw [eqS_iff.1 he]
  | false =>
    refine sync_of (n := fuel x + 1) ?_
    unfold syncE
    rw [h]
    simp only [he, cond_false]
    exact syncE_sync x

/-- By turns. -/
theorem sync_ind {p : Sc → Prop} (h : ∀ k, (∀ x, turn k = some x → x ≠ k → p x) → p k) : ∀ k, p k := by
  have : ∀ n k, width k < n → p k := by
    intro n
    induction n with
    | zero => intro k hk; omega
    | succ n ih =>
      intro k hk
      refine h k fun x hx hne => ih x ?_
      have w := turn_some hx
      obtain ⟨h1, h2⟩ := w.sub.width w.l4 w.l0
      have : width x ≠ width k := fun e => hne (h2 e)
      omega
  exact fun k => this _ k (Nat.lt_succ_self _)

/-! ### Where it ends -/
structure Stable (k : Sc) : Prop where
  live : Live k
  bits : byBits k = k
  range : byRange k = k
  plain : byPlain k = k
  sign : bySign k = k

theorem Stable.turn {k : Sc} (h : Stable k) : turn k = some k := by
  have e : bySign (byPlain (byRange (byBits k))) = k := by rw [h.bits, h.range, h.plain, h.sign]
  have := turn_of (k := k) h.live (by rw [h.bits]; exact h.live) (by rw [h.bits, h.range]; exact h.live) (by rw [h.bits, h.range, h.plain]; exact h.live) (by rw [e]; exact h.live)
  rw [e] at this
  exact this
theorem stable_of {k : Sc} (h : turn k = some k) : Stable k := by
  have w := turn_some h
  obtain ⟨a, b, c, d⟩ := w.subs
  obtain ⟨a1, a2⟩ := a.width w.l4 w.l3
  obtain ⟨b1, b2⟩ := b.width w.l3 w.l2
  obtain ⟨c1, c2⟩ := c.width w.l2 w.l1
  obtain ⟨d1, d2⟩ := d.width w.l1 w.l0
  have e1 := d2 (by omega)
  have e2 := c2 (by omega)
  have e3 := b2 (by omega)
  have e4 := a2 (by omega)
  rw [e1] at e2
  rw [e1, e2] at e3
  rw [e1, e2, e3] at e4
  have e := w.e
  rw [e1, e2, e3] at e
  exact ⟨w.l0, e1, e2, e3, e.symm⟩
theorem Stable.sync {k : Sc} (h : Stable k) : sync k = some k := sync_fix h.turn

theorem sync_some : ∀ (k : Sc) {t : Sc}, sync k = some t → Stable t ∧ Sub t k ∧ Live k := fun k => by
  refine sync_ind (p := fun k => ∀ {t : Sc}, sync k = some t → Stable t ∧ Sub t k ∧ Live k) (fun k ih t h => ?_) k
  cases ht : Sc.turn k with
  | none => rw [sync_none ht] at h; cases h
  | some x =>
    have w := turn_some ht
    by_cases hx : x = k
    · subst hx
      rw [sync_fix ht] at h
      injection h with h; subst h
      exact ⟨stable_of ht, Sub.refl w.l0.ok, w.l0⟩
    · rw [sync_step ht] at h
      obtain ⟨h1, h2, h3⟩ := ih x ht hx h
      exact ⟨h1, h2.trans h1.live.ok w.l4.ok w.l0.ok w.sub, w.l0⟩

theorem is_iff {k : Sc} : is k = true ↔ Stable k := by
  unfold is
  constructor
  · intro h
    cases hs : sync k with
    | none => rw [hs] at h; cases h
    | some x =>
      rw [hs] at h
      have := eqS_iff.1 h
      subst this
      exact (sync_some _ hs).1
  · intro h
    rw [h.sync]
    exact eqS_iff.2 rfl
theorem right_of {k : Sc} (h : Stable k) : right k = k := by unfold right; rw [is_iff.2 h]; rfl

/-! ### No number is lost -/
theorem byBits_has {k : Sc} {n : BitVec 64} (h : Has k n) : Has (byBits k) n := by
  refine ⟨h.ok, h.t, ?_, ?_, h.s, h.S⟩
  · simp only [byBits, maxU_nat, least_ok h.ok]
    have := mem_least h.ok h.t; have := h.u
    omega
  · simp only [byBits, minU_nat, most_ok h.ok]
    have := mem_most h.t; have := h.U
    omega
theorem byRange_has {k : Sc} {n : BitVec 64} (h : Has k n) : Has (byRange k) n := by
  obtain ⟨h1, h2⟩ := has_meet h.ok (range_ok k.u k.U) h.t (mem_range h.u h.U)
  rw [byRange_eq h1]
  exact ⟨meet_ok h.ok (range_ok _ _) h1, (has_iff (meet_ok h.ok (range_ok _ _) h1)).1 h2, h.u, h.U, h.s, h.S⟩
theorem byPlain_has {k : Sc} {n : BitVec 64} (h : Has k n) : Has (byPlain k) n := by
  unfold byPlain
  by_cases hs : 0 ≤ (k.u ^^^ k.U).toInt
  · rw [decide_eq_true hs]
    have h1 := (xor_sign _ _).1 hs
    have := h.u; have := h.U; have := h.s; have := h.S
    refine ⟨h.ok, h.t, h.u, h.U, ?_, ?_⟩
    · simp only [cond_true, maxI_eq]
      rcases toInt_cases k.u with ⟨a, b⟩ | ⟨a, b⟩ <;> rcases toInt_cases n with ⟨c, d⟩ | ⟨c, d⟩ <;> omega
    · simp only [cond_true, minI_eq]
      rcases toInt_cases k.U with ⟨a, b⟩ | ⟨a, b⟩ <;> rcases toInt_cases n with ⟨c, d⟩ | ⟨c, d⟩ <;> omega
  · rw [decide_eq_false hs]; exact h
theorem bySign_has {k : Sc} (r : Rg k) {n : BitVec 64} (h : Has k n) : Has (bySign k) n := by
  unfold bySign
  by_cases hs : 0 ≤ xorI k.s k.S
  · rw [decide_eq_true hs]
    have h1 := (xorI_sign r.a r.b r.c r.d).1 hs
    have := h.u; have := h.U; have := h.s; have := h.S
    have e1 := ofInt_nat r.a r.b
    have e2 := ofInt_nat r.c r.d
    obtain ⟨r1, r2, r3, r4⟩ := r
    simp only [iMin, iMax] at r1 r2 r3 r4
    refine ⟨h.ok, h.t, ?_, ?_, h.s, h.S⟩
    · simp only [cond_true, maxU_nat]
      rcases toInt_cases n with ⟨c, d⟩ | ⟨c, d⟩ <;> split at e1 <;> split at e2 <;> omega
    · simp only [cond_true, minU_nat]
      rcases toInt_cases n with ⟨c, d⟩ | ⟨c, d⟩ <;> split at e1 <;> split at e2 <;> omega
  · rw [decide_eq_false hs]; exact h

theorem Rg.bits {k : Sc} (r : Rg k) : Rg (byBits k) := ⟨r.a, r.b, r.c, r.d⟩
theorem Rg.range {k : Sc} (r : Rg k) : Rg (byRange k) := by unfold byRange; cases meetOk k.t (Tn.range k.u k.U) <;> exact ⟨r.a, r.b, r.c, r.d⟩
theorem Rg.plain {k : Sc} (r : Rg k) : Rg (byPlain k) := by
  unfold byPlain
  cases decide (0 ≤ (k.u ^^^ k.U).toInt) with
  | false => exact r
  | true =>
    obtain ⟨r1, r2, r3, r4⟩ := r
    have a := toInt_rg k.u
    have b := toInt_rg k.U
    simp only [iMin, iMax] at *
    constructor <;> simp only [cond_true, maxI_eq, minI_eq, iMin, iMax] <;> omega
theorem Rg.sign {k : Sc} (r : Rg k) : Rg (bySign k) := by unfold bySign; cases decide (0 ≤ xorI k.s k.S) <;> exact ⟨r.a, r.b, r.c, r.d⟩

theorem turn_has {k : Sc} (r : Rg k) {n : BitVec 64} (h : Has k n) : ∃ x, turn k = some x ∧ Has x n ∧ Rg x :=
  ⟨_, turn_of h.live (byBits_has h).live (byRange_has (byBits_has h)).live (byPlain_has (byRange_has (byBits_has h))).live (bySign_has r.bits.range.plain (byPlain_has (byRange_has (byBits_has h)))).live,
    bySign_has r.bits.range.plain (byPlain_has (byRange_has (byBits_has h))), r.bits.range.plain.sign⟩

theorem sync_has : ∀ (k : Sc), Rg k → ∀ n, Has k n → ∃ t, sync k = some t ∧ Has t n ∧ Rg t := fun k => by
  refine sync_ind (p := fun k => Rg k → ∀ n, Has k n → ∃ t, sync k = some t ∧ Has t n ∧ Rg t) (fun k ih r n h => ?_) k
  obtain ⟨x, hx, h1, h2⟩ := turn_has r h
  by_cases hk : x = k
  · subst hk
    exact ⟨x, sync_fix hx, h1, h2⟩
  · rw [sync_step hx]
    exact ih x hx hk h2 n h1

theorem sync_rg : ∀ (k : Sc), Rg k → ∀ t, sync k = some t → Rg t := fun k => by
  refine sync_ind (p := fun k => Rg k → ∀ t, sync k = some t → Rg t) (fun k ih r t h => ?_) k
  cases ht : Sc.turn k with
  | none => rw [sync_none ht] at h; cases h
  | some x =>
    have w := turn_some ht
    have hr : Rg x := by rw [w.e]; exact r.bits.range.plain.sign
    by_cases hx : x = k
    · subst hx
      rw [sync_fix ht] at h
      injection h with h; subst h; exact hr
    · rw [sync_step ht] at h
      exact ih x ht hx hr t h

/-! ### What is stable below stays below -/
theorem inn_ends {a b : Tn} (ha : ok a = true) (hb : ok b = true) (h : Tn.inn a b = true) : b.v.toNat ≤ a.v.toNat ∧ (mx a).toNat ≤ (mx b).toNat :=
  ⟨mem_least hb (inn_mem ha hb h (mem_v a)), mem_most (inn_mem ha hb h (mem_mx a))⟩

theorem mono_bits {a k : Sc} (h : Stable a) (hk : ok k.t = true) (hs : Sub a k) : Sub a (byBits k) := by
  obtain ⟨e1, e2⟩ := inn_ends h.live.ok hk hs.t
  have b1 : a.t.v.toNat ≤ a.u.toNat := by
    have := congrArg (fun x => x.u.toNat) h.bits
    simp only [byBits, maxU_nat, least_ok h.live.ok] at this

    omega
  have b2 : a.U.toNat ≤ (mx a.t).toNat := by
    have := congrArg (fun x => x.U.toNat) h.bits
    simp only [byBits, minU_nat, most_ok h.live.ok] at this
    omega
  refine ⟨hs.t, ?_, ?_, hs.s, hs.S⟩
  · simp only [byBits, maxU_nat, least_ok hk]
    have := hs.u; omega
  · simp only [byBits, minU_nat, most_ok hk]
    have := hs.U; omega
theorem Stable.t_in {a : Sc} (h : Stable a) : Tn.inn a.t (Tn.range a.u a.U) = true := by
  have hl : Live (byRange a) := by rw [h.range]; exact h.live
  have hm := byRange_live hl
  have e := congrArg (fun x => x.t) h.range
  rw [byRange_eq hm] at e
  have e : Tn.meet a.t (Tn.range a.u a.U) = a.t := e
  rw [meet_comm] at e
  rw [← e]
  have hm' : meetOk (Tn.range a.u a.U) a.t = true := by
    unfold meetOk at hm ⊢
    rw [meetB_comm]; exact hm
  have := meet_in (range_ok a.u a.U) h.live.ok hm'
  rw [e] at this ⊢
  exact this
theorem mono_range {a k : Sc} (h : Stable a) (hk : ok k.t = true) (hs : Sub a k) : Sub a (byRange k) ∧ ok (byRange k).t = true := by
  have h1 : Tn.inn a.t (Tn.range k.u k.U) = true := inn_trans h.live.ok (range_ok _ _) (range_ok _ _) h.t_in (range_in h.live.u hs.u hs.U)
  obtain ⟨hm, _⟩ := has_meet hk (range_ok k.u k.U) (inn_mem h.live.ok hk hs.t (mem_v a.t)) (inn_mem h.live.ok (range_ok _ _) h1 (mem_v a.t))
  rw [byRange_eq hm]
  have hok := meet_ok hk (range_ok k.u k.U) hm
  refine ⟨⟨inn_of_mem h.live.ok hok fun x hx => ?_, hs.u, hs.U, hs.s, hs.S⟩, hok⟩
  exact (has_iff hok).1 (has_meet hk (range_ok k.u k.U) (inn_mem h.live.ok hk hs.t hx) (inn_mem h.live.ok (range_ok _ _) h1 hx)).2
theorem Stable.plain_s {a : Sc} (h : Stable a) (hs : (9223372036854775808 ≤ a.u.toNat) ↔ (9223372036854775808 ≤ a.U.toNat)) : a.u.toInt ≤ a.s ∧ a.S ≤ a.U.toInt := by
  have e := h.plain
  unfold byPlain at e
  rw [decide_eq_true ((xor_sign a.u a.U).2 hs)] at e
  have e1 := congrArg (fun x => x.s) e
  have e2 := congrArg (fun x => x.S) e
  simp only [cond_true, maxI_eq, minI_eq] at e1 e2
  omega
theorem Stable.sign_u {a : Sc} (r : Rg a) (h : Stable a) (hs : (a.s < 0) ↔ (a.S < 0)) : (BitVec.ofInt 64 a.s).toNat ≤ a.u.toNat ∧ a.U.toNat ≤ (BitVec.ofInt 64 a.S).toNat := by
  have e := h.sign
  unfold bySign at e
  rw [decide_eq_true ((xorI_sign r.a r.b r.c r.d).2 hs)] at e
  have e1 := congrArg (fun x => x.u.toNat) e
  have e2 := congrArg (fun x => x.U.toNat) e
  simp only [cond_true, maxU_nat, minU_nat] at e1 e2
  omega
theorem mono_plain {a k : Sc} (h : Stable a) (hs : Sub a k) : Sub a (byPlain k) := by
  unfold byPlain
  by_cases hc : 0 ≤ (k.u ^^^ k.U).toInt
  · rw [decide_eq_true hc]
    have h1 := (xor_sign _ _).1 hc
    have := hs.u; have := hs.U; have := hs.s; have := hs.S; have := h.live.u
    obtain ⟨p1, p2⟩ := h.plain_s (by omega)
    refine ⟨hs.t, hs.u, hs.U, ?_, ?_⟩
    · simp only [cond_true, maxI_eq]
      rcases toInt_cases k.u with ⟨a1, b⟩ | ⟨a1, b⟩ <;> rcases toInt_cases a.u with ⟨c, d⟩ | ⟨c, d⟩ <;> omega
    · simp only [cond_true, minI_eq]
      rcases toInt_cases k.U with ⟨a1, b⟩ | ⟨a1, b⟩ <;> rcases toInt_cases a.U with ⟨c, d⟩ | ⟨c, d⟩ <;> omega
  · rw [decide_eq_false hc]; exact hs
theorem mono_sign {a k : Sc} (ra : Rg a) (rk : Rg k) (h : Stable a) (hs : Sub a k) : Sub a (bySign k) := by
  unfold bySign
  by_cases hc : 0 ≤ xorI k.s k.S
  · rw [decide_eq_true hc]
    have h1 := (xorI_sign rk.a rk.b rk.c rk.d).1 hc
    have := hs.u; have := hs.U; have := hs.s; have := hs.S; have := h.live.s
    obtain ⟨p1, p2⟩ := h.sign_u ra (by omega)
    have e1 := ofInt_nat ra.a ra.b
    have e2 := ofInt_nat ra.c ra.d
    have e3 := ofInt_nat rk.a rk.b
    have e4 := ofInt_nat rk.c rk.d
    obtain ⟨r1, r2, r3, r4⟩ := rk
    simp only [iMin, iMax] at r1 r2 r3 r4
    refine ⟨hs.t, ?_, ?_, hs.s, hs.S⟩
    · simp only [cond_true, maxU_nat]
      split at e1 <;> split at e2 <;> split at e3 <;> split at e4 <;> omega
    · simp only [cond_true, minU_nat]
      split at e1 <;> split at e2 <;> split at e3 <;> split at e4 <;> omega
  · rw [decide_eq_false hc]; exact hs

theorem mono_turn {a k : Sc} (ra : Rg a) (rk : Rg k) (h : Stable a) (hk : ok k.t = true) (hs : Sub a k) : ∃ x, turn k = some x ∧ Sub a x ∧ ok x.t = true ∧ Rg x := by
  have s1 := mono_bits h hk hs
  obtain ⟨s2, o2⟩ := mono_range h (k := byBits k) hk s1
  have s3 := mono_plain h s2
  have o3 : ok (byPlain (byRange (byBits k))).t = true := by rw [byPlain_t]; exact o2
  have s4 := mono_sign ra rk.bits.range.plain h s3
  have o4 : ok (bySign (byPlain (byRange (byBits k)))).t = true := by rw [bySign_t]; exact o3
  exact ⟨_, turn_of (hs.live h.live hk) (s1.live h.live hk) (s2.live h.live o2) (s3.live h.live o3) (s4.live h.live o4), s4, o4, rk.bits.range.plain.sign⟩

theorem sync_mono {a : Sc} (ra : Rg a) (h : Stable a) : ∀ k, Rg k → ok k.t = true → Sub a k → ∃ t, sync k = some t ∧ Sub a t := fun k => by
  refine sync_ind (p := fun k => Rg k → ok k.t = true → Sub a k → ∃ t, sync k = some t ∧ Sub a t) (fun k ih rk hk hs => ?_) k
  obtain ⟨x, hx, h1, h2, h3⟩ := mono_turn ra rk h hk hs
  by_cases hxk : x = k
  · subst hxk
    exact ⟨x, sync_fix hx, h1⟩
  · rw [sync_step hx]
    exact ih x hx hxk h3 h2 h1

/-! ### Scalars as the laws have them: stable, in range, not without a number -/
structure Good (k : Sc) : Prop where
  st : Stable k
  rg : Rg k

theorem Good.ok {k : Sc} (h : Good k) : ok k.t = true := h.st.live.ok

/-- What is brought together of parts that have a number. -/
theorem synced_has {k : Sc} (r : Rg k) {n : BitVec 64} (h : Has k n) : ∃ t, sync k = some t ∧ synced k = t ∧ Good t ∧ Has t n ∧ Sub t k := by
  obtain ⟨t, h1, h2, h3⟩ := sync_has k r n h
  obtain ⟨h4, h5, _⟩ := sync_some k h1
  exact ⟨t, h1, by unfold synced; rw [h1]; rfl, ⟨h4, h3⟩, h2, h5⟩
/-- .. that something stable is within. -/
theorem synced_sub {a k : Sc} (ha : Good a) (r : Rg k) (hk : ok k.t = true) (hs : Sub a k) : ∃ t, sync k = some t ∧ synced k = t ∧ Good t ∧ Sub a t ∧ Sub t k := by
  obtain ⟨t, h1, h2⟩ := sync_mono ha.rg ha.st k r hk hs
  obtain ⟨h4, h5, _⟩ := sync_some k h1
  exact ⟨t, h1, by unfold synced; rw [h1]; rfl, ⟨h4, sync_rg k r t h1⟩, h2, h5⟩

theorem all_rg : Rg all := ⟨Int.le_refl _, by decide, by decide, Int.le_refl _⟩
theorem all_stable : Stable all := by
  refine ⟨⟨by decide +kernel, by decide +kernel, by decide +kernel⟩, ?_, ?_, ?_, ?_⟩
  · exact eqS_iff.1 (by decide +kernel)
  · exact eqS_iff.1 (by decide +kernel)
  · exact eqS_iff.1 (by decide +kernel)
  · exact eqS_iff.1 (by decide +kernel)
theorem all_good : Good all := ⟨all_stable, all_rg⟩
theorem all_has (n : BitVec 64) : Has all n := by
  have := toInt_rg n
  have h := n.isLt
  have e : full.toNat = 18446744073709551615 := by decide
  exact ⟨all_stable.live.ok, mem_unknown n, by show (0#64).toNat ≤ _; simp, by show n.toNat ≤ full.toNat; omega, this.1, this.2⟩
theorem sub_all {a : Sc} (h : ok a.t = true) (r : Rg a) : Sub a all :=
  ⟨inn_of_mem h all_stable.live.ok fun x _ => mem_unknown x, (all_has a.u).u, (all_has a.U).U, r.a, r.d⟩

theorem const_rg (n : BitVec 64) : Rg (const n) := by have := toInt_rg n; exact ⟨this.1, this.2, this.1, this.2⟩
theorem const_has {n x : BitVec 64} : Has (const n) x ↔ x = n := by
  constructor
  · intro h
    have := h.u; have := h.U
    exact BitVec.eq_of_toNat_eq (by have h1 : n.toNat ≤ x.toNat := h.u; have h2 : x.toNat ≤ n.toNat := h.U; omega)
  · rintro rfl
    exact ⟨const_ok _, mem_const _, Nat.le_refl _, Nat.le_refl _, Int.le_refl _, Int.le_refl _⟩
/-- A scalar whose tnum is a number's, and that has it, is its constant, once it is stable. -/
theorem Good.const_of {k : Sc} (h : Good k) {n : BitVec 64} (hn : Has k n) (hm : k.t.m = 0#64) : k = const n := by
  have h1 : k.t = Tn.const n := by
    have : n = k.t.v := bext fun i hi => hn.t i hi (by rw [hm]; exact BitVec.getLsbD_zero)
    have h2 : k.t = ⟨k.t.v, k.t.m⟩ := rfl
    rw [h2, hm, ← this]; rfl
  have hu : k.u = n ∧ k.U = n := by
    have b1 : k.t.v.toNat ≤ k.u.toNat := by
      have := congrArg (fun x => x.u.toNat) h.st.bits
      simp only [byBits, maxU_nat, least_ok h.ok] at this
      omega
    have b2 : k.U.toNat ≤ (mx k.t).toNat := by
      have := congrArg (fun x => x.U.toNat) h.st.bits
      simp only [byBits, minU_nat, most_ok h.ok] at this
      omega
    have e2 : mx k.t = n := by unfold mx; rw [h1]; show n ||| 0#64 = n; simp
    rw [e2] at b2
    rw [h1] at b1
    have b1 : n.toNat ≤ k.u.toNat := b1
    have := hn.u; have := hn.U
    exact ⟨BitVec.eq_of_toNat_eq (by omega), BitVec.eq_of_toNat_eq (by omega)⟩
  have hs := h.st.plain_s (by rw [hu.1, hu.2])
  rw [hu.1, hu.2] at hs
  have := hn.s; have := hn.S
  have e4 : k.s = n.toInt := by omega
  have e5 : k.S = n.toInt := by omega
  obtain ⟨t, u, U, s, S⟩ := k
  simp only at h1 hu e4 e5
  rw [h1, hu.1, hu.2, e4, e5]; rfl
theorem const_good (n : BitVec 64) : Good (const n) := by
  obtain ⟨t, h1, _, h3, h4, h5⟩ := synced_has (const_rg n) (const_has.2 rfl)
  have hm : t.t.m = 0#64 := by
    have h6 := (inn_m h3.ok (const_ok n) h5.t).1
    have h7 : (Tn.const n).m.toNat = 0 := rfl
    exact BitVec.eq_of_toNat_eq (by rw [BitVec.toNat_ofNat]; omega)
  have := h3.const_of h4 hm
  rw [this] at h3; exact h3

theorem isConst_iff {k : Sc} : isConst k = true ↔ k.t.m = 0#64 := by
  unfold isConst; exact beq_iff_eq

theorem has_iff' {k : Sc} {n : BitVec 64} : has k n = true ↔ Has k n := by
  unfold has
  constructor
  · intro h
    cases h1 : Tn.has k.t n with
    | false => rw [h1] at h; cases h
    | true =>
      cases h2 : BitVec.ule k.u n with
      | false => rw [h1, h2] at h; cases h
      | true =>
        cases h3 : BitVec.ule n k.U with
        | false => rw [h1, h2, h3] at h; cases h
        | true =>
          rw [h1, h2, h3] at h
          simp only [cond_true] at h
          by_cases h4 : k.s ≤ n.toInt
          · simp only [h4, decide_true, cond_true, decide_eq_true_eq] at h
            have ho := has_ok h1
            exact ⟨ho, (Tn.has_iff ho).1 h1, ule_iff.1 h2, ule_iff.1 h3, h4, h⟩
          · simp [h4] at h
  · intro h
    rw [(Tn.has_iff h.ok).2 h.t, ule_iff.2 h.u, ule_iff.2 h.U]
    simp [h.s, h.S]

theorem inn_of {a b : Sc} (ha : Good a) (hb : Good b) (h : Sub a b) : inn a b = true := by
  unfold inn
  rw [right_of ha.st, right_of hb.st, h.t, ule_iff.2 h.u, ule_iff.2 h.U]
  simp [h.s, h.S]
theorem inn_sub {a b : Sc} (ha : Good a) (hb : Good b) (h : inn a b = true) : Sub a b := by
  unfold inn at h
  rw [right_of ha.st, right_of hb.st] at h
  cases h1 : Tn.inn a.t b.t with
  | false => rw [h1] at h; cases h
  | true =>
    cases h2 : BitVec.ule b.u a.u with
    | false => rw [h1, h2] at h; cases h
    | true =>
      cases h3 : BitVec.ule a.U b.U with
      | false => rw [h1, h2, h3] at h; cases h
      | true =>
        rw [h1, h2, h3] at h
        simp only [cond_true] at h
        by_cases h4 : b.s ≤ a.s
        · simp only [h4, decide_true, cond_true, decide_eq_true_eq] at h
          exact ⟨h1, ule_iff.1 h2, ule_iff.1 h3, h4, h⟩
        · simp [h4] at h

/-! ### Joining, meeting, ranges -/
theorem join_ok {a b : Tn} (ha : ok a = true) (hb : ok b = true) : ok (Tn.join a b) = true := by rw [join_v ha hb]; exact ok_of' _ _
theorem joinP_rg {a b : Sc} (ha : Rg a) (hb : Rg b) : Rg (joinP a b) := by
  obtain ⟨a1, a2, a3, a4⟩ := ha
  obtain ⟨b1, b2, b3, b4⟩ := hb
  simp only [iMin, iMax] at *
  constructor <;> simp only [joinP, minI_eq, maxI_eq, iMin, iMax] <;> omega
theorem joinP_sub {a b : Sc} (ha : ok a.t = true) (hb : ok b.t = true) : Sub a (joinP a b) :=
  ⟨join_in ha hb, by simp only [joinP, minU_nat]; omega, by simp only [joinP, maxU_nat]; omega, by simp only [joinP, minI_eq]; omega, by simp only [joinP, maxI_eq]; omega⟩
theorem joinP_comm (a b : Sc) : joinP a b = joinP b a := by
  unfold joinP
  have e1 : minU a.u b.u = minU b.u a.u := BitVec.eq_of_toNat_eq (by rw [minU_nat, minU_nat]; omega)
  have e2 : maxU a.U b.U = maxU b.U a.U := BitVec.eq_of_toNat_eq (by rw [maxU_nat, maxU_nat]; omega)
  have e3 : minI a.s b.s = minI b.s a.s := by rw [minI_eq, minI_eq]; omega
  have e4 : maxI a.S b.S = maxI b.S a.S := by rw [maxI_eq, maxI_eq]; omega
  rw [e1, e2, e3, e4, join_comm]
theorem join_comm' (a b : Sc) : join a b = join b a := by unfold join; rw [joinP_comm]
theorem join_good {a b : Sc} (ha : Good a) (hb : Good b) : Good (join a b) ∧ Sub a (join a b) ∧ Sub b (join a b) := by
  unfold join
  rw [right_of ha.st, right_of hb.st]
  obtain ⟨t, h1, h2, h3, h4, h5⟩ := synced_sub ha (joinP_rg ha.rg hb.rg) (join_ok ha.ok hb.ok) (joinP_sub ha.ok hb.ok)
  obtain ⟨t', h1', h2', h3', h4', h5'⟩ := synced_sub hb (joinP_rg ha.rg hb.rg) (join_ok ha.ok hb.ok) (by rw [joinP_comm]; exact joinP_sub hb.ok ha.ok)
  rw [h1] at h1'; injection h1' with h1'; subst h1'
  rw [h2]
  exact ⟨h3, h4, h4'⟩
theorem join_inn {a b : Sc} (ha : Good a) (hb : Good b) (h : Sub a b) : join a b = b := by
  have e : joinP a b = b := by
    obtain ⟨_, _, e0⟩ := in_meet ha.ok hb.ok h.t
    have := h.u; have := h.U; have := h.s; have := h.S
    have e1 : minU a.u b.u = b.u := BitVec.eq_of_toNat_eq (by rw [minU_nat]; omega)
    have e2 : maxU a.U b.U = b.U := BitVec.eq_of_toNat_eq (by rw [maxU_nat]; omega)
    have e3 : minI a.s b.s = b.s := by rw [minI_eq]; omega
    have e4 : maxI a.S b.S = b.S := by rw [maxI_eq]; omega
    unfold joinP
    rw [e0, e1, e2, e3, e4]
  unfold join
  rw [right_of ha.st, right_of hb.st, e]
  unfold synced
  rw [hb.st.sync]; rfl
theorem join_self' {a : Sc} (ha : Good a) : join a a = a := join_inn ha ha (Sub.refl ha.ok)

theorem mk4_good (a b c d : BitVec 64) : Good (mk4 a b c d) ∧ ∀ x, x = a ∨ x = b ∨ x = c ∨ x = d → Has (mk4 a b c d) x := by
  unfold mk4
  obtain ⟨g1, s1, s1'⟩ := join_good (const_good a) (const_good b)
  obtain ⟨g2, s2, s2'⟩ := join_good g1 (const_good c)
  obtain ⟨g3, s3, s3'⟩ := join_good g2 (const_good d)
  refine ⟨g3, fun x hx => ?_⟩
  rcases hx with rfl | rfl | rfl | rfl
  · exact s3.has g3.ok (s2.has g2.ok (s1.has g1.ok (const_has.2 rfl)))
  · exact s3.has g3.ok (s2.has g2.ok (s1'.has g1.ok (const_has.2 rfl)))
  · exact s3.has g3.ok (s2'.has g2.ok (const_has.2 rfl))
  · exact s3'.has g3.ok (const_has.2 rfl)

theorem between_good (l m : BitVec 64) : Good (between l m) ∧ (l.toNat ≤ m.toNat → ∀ x, Has (between l m) x ↔ l.toNat ≤ x.toNat ∧ x.toNat ≤ m.toNat) ∧ (m.toNat < l.toNat → between l m = all) := by
  unfold between
  cases h : BitVec.ult m l with
  | true => exact ⟨all_good, fun h' => absurd (ult_iff.1 h) (by omega), fun _ => rfl⟩
  | false =>
    have h' := ult_not.1 h
    have hh : ∀ x : BitVec 64, l.toNat ≤ x.toNat → x.toNat ≤ m.toNat → Has ⟨unknown, l, m, iMin, iMax⟩ x := fun x a b => ⟨all_stable.live.ok, mem_unknown x, a, b, (all_has x).s, (all_has x).S⟩
    have hr : Rg ⟨unknown, l, m, iMin, iMax⟩ := ⟨all_rg.a, all_rg.b, all_rg.c, all_rg.d⟩
    obtain ⟨t, h1, h2, h3, h4, h5⟩ := synced_has hr (hh l (Nat.le_refl _) h')
    refine ⟨by simp only [cond_false, h2]; exact h3, fun _ x => ?_, fun e => by omega⟩
    simp only [cond_false, h2]
    constructor
    · intro hx
      exact ⟨Nat.le_trans h5.u hx.u, Nat.le_trans hx.U h5.U⟩
    · rintro ⟨a, b⟩
      obtain ⟨t', h1', _, _, h4', _⟩ := synced_has hr (hh x a b)
      rw [h1] at h1'; injection h1' with h1'; subst h1'
      exact h4'

theorem syncKE_eq (k : Sc) : syncKE (fuel k) k = some (syncK k, sync k) := by
  have h := syncKE_snd (fuel k) k
  rw [syncE_sync] at h
  unfold syncK
  cases hx : syncKE (fuel k) k with
  | none => rw [hx] at h; cases h
  | some p => rw [hx] at h; simp at h; obtain ⟨a, b⟩ := p; simp at h; subst h; rfl
end Go.Sc
