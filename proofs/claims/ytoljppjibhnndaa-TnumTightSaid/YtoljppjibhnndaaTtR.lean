/-
  The tightest tnum of all that an operation makes; all numbers of a small tnum.
-/
import Derived.Test.YtoljppjibhnndaaTtQ
namespace Go.Tn
open Go Go.Sy Go.Sz
set_option linter.unusedVariables false
set_option linter.unusedSimpArgs false

/-- Of some numbers of a tnum, of which two differ at each unknown bit, that one is the tightest. -/
theorem tight_of {T : Tn} (hT : ok T = true) {l : U64s} (ne : 0 < l.length) (snd : ∀ x ∈ l, Mem T x.1) (tgt : ∀ i, i < 64 → bt T.m i = true → ∃ x ∈ l, ∃ x' ∈ l, bt x.1 i ≠ bt x'.1 i) : tightOf l = T := by
  obtain ⟨⟨h, u⟩, t, rfl⟩ : ∃ h t, l = h :: t := by
    cases l with
    | nil => cases ne
    | cons h t => exact ⟨h, t, rfl⟩
  have hm : ∀ i, i < 64 → bt (orX h t (BitVec.ofInt 64 0)) i = bt T.m i := fun i hi => by
    have e := orX_bit h i t (BitVec.ofInt 64 0)
    rw [show (BitVec.ofInt 64 0).getLsbD i = false from bt_zero i, Bool.false_or] at e
    refine e.trans ?_
    cases c : bt T.m i with
    | false =>
      rw [List.any_eq_false]
      intro x hx
      have h1 := snd x (List.mem_cons_of_mem _ hx) i hi c
      have h2 := snd (h, u) (List.mem_cons_self ..) i hi c
      have h3 : bt (x.1 ^^^ h) i = false := by rw [bt_xor, h1, h2]; simp
      rw [show (x.1 ^^^ h).getLsbD i = false from h3]; simp
    | true =>
      rw [List.any_eq_true]
      obtain ⟨x, hx, x', hx', hne⟩ := tgt i hi c
      have key : ∃ z ∈ (h, u) :: t, bt z.1 i ≠ bt h i := by
        by_cases g : bt x.1 i = bt h i
        · exact ⟨x', hx', fun e => hne (g.trans e.symm)⟩
        · exact ⟨x, hx, g⟩
      obtain ⟨z, hz, hz2⟩ := key
      rcases List.mem_cons.1 hz with e | e
      · subst e; exact absurd rfl hz2
      · refine ⟨z, e, ?_⟩
        show bt (z.1 ^^^ h) i = true
        rw [bt_xor]
        generalize bt z.1 i = p at *
        generalize bt h i = q at *
        cases p <;> cases q <;> first | rfl | exact absurd rfl hz2
  have hh : ∀ i, i < 64 → bt T.m i = false → bt h i = bt T.v i := fun i hi c => snd (h, u) (List.mem_cons_self ..) i hi c
  have e1 : orX h t (BitVec.ofInt 64 0) = T.m := bext hm
  have e2 : h &&& ~~~T.m = T.v := bext fun i hi => by
    rw [bt_and, bt_not hi]
    have hk := ok_bit hT i
    cases c : bt T.m i with
    | false => rw [hh i hi c]; simp
    | true => rw [c, Bool.and_true] at hk; rw [hk]; simp
  show (⟨h &&& ~~~orX h t (BitVec.ofInt 64 0), orX h t (BitVec.ofInt 64 0)⟩ : Tn) = T
  rw [e1, e2]

/-! ### Submasks, downwards -/
def subsD (v m : BitVec 64) : Nat → BitVec 64 → U64s
  | 0, s => [(v ||| s, ())]
  | k + 1, s => (v ||| s, ()) :: bif s == BitVec.ofInt 64 0 then [] else subsD v m k ((s - BitVec.ofInt 64 1) &&& m)

theorem and_bits (a b : Nat) : (a &&& b) = 2 * (a / 2 &&& b / 2) + (a % 2 &&& b % 2) := by
  have h1 : (a &&& b) / 2 = (a / 2 &&& b / 2) := Nat.and_div_two
  have h2 : (a &&& b) % 2 = (a % 2 &&& b % 2) := by
    have := Nat.and_mod_two_pow (a := a) (b := b) (n := 1)
    simpa using this
  omega
theorem and_two {a b : Nat} (ha : a < 2) (hb : b < 2) : (a &&& b) = if a = 1 ∧ b = 1 then 1 else 0 := by
  rcases (by omega : a = 0 ∨ a = 1) with rfl | rfl <;> rcases (by omega : b = 0 ∨ b = 1) with rfl | rfl <;> rfl
/-- the next smaller submask -/
theorem sub_next : ∀ (s m u : Nat), s &&& m = s → u &&& m = u → u < s → u ≤ (s - 1) &&& m := fun s => by
  induction s using Nat.strongRecOn with
  | _ s ih =>
    intro m u hs hu h
    have h1 := and_bits s m
    have h2 := and_bits u m
    have h3 := and_bits (s - 1) m
    rw [hs] at h1
    rw [hu] at h2
    rw [h3]
    rw [and_two (Nat.mod_lt _ (by decide)) (Nat.mod_lt _ (by decide))] at h1 h2 ⊢
    have hs2 : s / 2 &&& m / 2 = s / 2 := by split at h1 <;> omega
    have hu2 : u / 2 &&& m / 2 = u / 2 := by split at h2 <;> omega
    rcases Nat.mod_two_eq_zero_or_one s with c | c
    · have e : (s - 1) / 2 = s / 2 - 1 := by omega
      have e1 : (s - 1) % 2 = 1 := by omega
      have := ih (s / 2) (by omega) (m / 2) (u / 2) hs2 hu2 (by omega)
      rw [e, e1]
      split at h2 <;> split <;> omega
    · have e : (s - 1) / 2 = s / 2 := by omega
      rw [e, hs2]
      split at h2 <;> split <;> omega

theorem and_nat (x y : BitVec 64) : (x &&& y).toNat = x.toNat &&& y.toNat := BitVec.toNat_and x y
theorem sub1_nat {s : BitVec 64} (h : s ≠ BitVec.ofInt 64 0) : (s - BitVec.ofInt 64 1).toNat = s.toNat - 1 ∧ 0 < s.toNat := by
  have h0 : s.toNat ≠ 0 := fun e => h (BitVec.eq_of_toNat_eq (by rw [e]; rfl))
  rw [BitVec.toNat_sub, show (BitVec.ofInt 64 1).toNat = 1 from rfl]
  have := s.isLt
  omega
theorem next_lt {s m : BitVec 64} (h : s ≠ BitVec.ofInt 64 0) : ((s - BitVec.ofInt 64 1) &&& m).toNat < s.toNat := by
  obtain ⟨h1, h2⟩ := sub1_nat h
  rw [and_nat, h1]
  have : s.toNat - 1 &&& m.toNat ≤ s.toNat - 1 := Nat.and_le_left
  omega
theorem next_sub (s m : BitVec 64) : ((s - BitVec.ofInt 64 1) &&& m) &&& m = (s - BitVec.ofInt 64 1) &&& m := by
  rw [BitVec.and_assoc, BitVec.and_self]
/-- All of them come. -/
theorem subsD_all {v m u : BitVec 64} (hu : u &&& m = u) : ∀ (k : Nat) (s : BitVec 64), s &&& m = s → s.toNat ≤ k → u.toNat ≤ s.toNat → (v ||| u, ()) ∈ subsD v m k s
  | 0, s, _, hk, h => by
    have : u = s := BitVec.eq_of_toNat_eq (by omega)
    rw [this]; exact List.mem_cons_self ..
  | k + 1, s, hs, hk, h => by
    by_cases e : u = s
    · rw [e]; exact List.mem_cons_self ..
    · have hlt : u.toNat < s.toNat := by
        have : u.toNat ≠ s.toNat := fun q => e (BitVec.eq_of_toNat_eq q)
        omega
      have h0 : s ≠ BitVec.ofInt 64 0 := fun q => by
        rw [q] at hlt; exact absurd hlt (Nat.not_lt_zero _)
      refine List.mem_cons_of_mem _ ?_
      rw [show (s == BitVec.ofInt 64 0) = false by simpa using h0]
      have := next_lt (m := m) h0
      refine subsD_all hu k _ (next_sub s m) (by omega) ?_
      rw [and_nat, (sub1_nat h0).1]
      exact sub_next _ _ _ (by rw [← and_nat, hs]) (by rw [← and_nat, hu]) hlt
theorem subsD_mem {v m : BitVec 64} : ∀ (k : Nat) (s : BitVec 64), s &&& m = s → ∀ x ∈ subsD v m k s, ∃ u, u &&& m = u ∧ x = (v ||| u, ())
  | 0, s, hs, x, hx => ⟨s, hs, by simpa [subsD] using hx⟩
  | k + 1, s, hs, x, hx => by
    rcases List.mem_cons.1 hx with e | e
    · exact ⟨s, hs, e⟩
    · cases c : s == BitVec.ofInt 64 0 with
      | true => rw [c] at e; cases e
      | false => rw [c] at e; exact subsD_mem k _ (next_sub s m) x e
/-- more fuel changes nothing -/
theorem subsD_fuel {v m : BitVec 64} : ∀ (k j : Nat) (s : BitVec 64), s.toNat ≤ k → s.toNat ≤ j → subsD v m k s = subsD v m j s
  | 0, 0, s, _, _ => rfl
  | 0, j + 1, s, h, _ => by
    have e : s = BitVec.ofInt 64 0 := BitVec.eq_of_toNat_eq (by rw [show (BitVec.ofInt 64 0).toNat = 0 from rfl]; omega)
    subst e; rfl
  | k + 1, 0, s, _, h => by
    have e : s = BitVec.ofInt 64 0 := BitVec.eq_of_toNat_eq (by rw [show (BitVec.ofInt 64 0).toNat = 0 from rfl]; omega)
    subst e; rfl
  | k + 1, j + 1, s, h, h2 => by
    unfold subsD
    cases c : s == BitVec.ofInt 64 0 with
    | true => rfl
    | false =>
      have := next_lt (s := s) (m := m) (by simpa using c)
      rw [cond_false, cond_false, subsD_fuel k j _ (by omega) (by omega)]
/-- the numbers of a tnum, as 'all' tells them -/
noncomputable def downs (v m s : BitVec 64) : U64s := subsD v m s.toNat s
theorem downs_zero (v m : BitVec 64) : downs v m (BitVec.ofInt 64 0) = [(v ||| BitVec.ofInt 64 0, ())] := rfl
theorem downs_step {v m s : BitVec 64} (h : s ≠ BitVec.ofInt 64 0) : downs v m s = (v ||| s, ()) :: downs v m ((s - BitVec.ofInt 64 1) &&& m) := by
  unfold downs
  obtain ⟨h1, h2⟩ := sub1_nat h
  obtain ⟨k, hk⟩ : ∃ k, s.toNat = k + 1 := ⟨s.toNat - 1, by omega⟩
  have := next_lt (m := m) h
  rw [hk]
  show _ :: (bif s == BitVec.ofInt 64 0 then [] else _) = _
  rw [show (s == BitVec.ofInt 64 0) = false by simpa using h, cond_false, subsD_fuel k _ _ (by omega) (Nat.le_refl _)]
noncomputable def allOf (t : Tn) : U64s := downs t.v t.m t.m
theorem allOf_mem {t : Tn} (ht : ok t = true) {x : BitVec 64} : (x, ()) ∈ allOf t ↔ Mem t x := by
  constructor
  · intro h
    obtain ⟨u, hu, e⟩ := subsD_mem _ _ (BitVec.and_self) _ h
    cases e
    intro i hi hm
    have := bt_congr hu i
    rw [bt_and, hm, Bool.and_false] at this
    rw [bt_or, ← this, Bool.or_false]
  · intro h
    have hu : (x &&& t.m) &&& t.m = x &&& t.m := by rw [BitVec.and_assoc, BitVec.and_self]
    have hx : t.v ||| (x &&& t.m) = x := bext fun i hi => by
      have hk := ok_bit ht i
      rw [bt_or, bt_and]
      cases c : bt t.m i with
      | false => rw [h i hi c]; simp
      | true => rw [c, Bool.and_true] at hk; rw [hk]; simp
    have := subsD_all (v := t.v) hu t.m.toNat t.m BitVec.and_self (Nat.le_refl _) (by rw [and_nat]; exact Nat.and_le_right)
    rwa [hx] at this
theorem downs_pos (v m s : BitVec 64) : 0 < (downs v m s).length := by
  unfold downs
  cases s.toNat with
  | zero => exact Nat.zero_lt_one
  | succ k => exact Nat.succ_pos _

/-! ### How many -/
/-- all that four bits make -/
def combos (b : List (BitVec 64)) : List (BitVec 64) := b.foldr (fun x l => l ++ l.map (x ||| ·)) [BitVec.ofInt 64 0]
def rank (c : List (BitVec 64)) (s : BitVec 64) : Nat := (c.filter fun x => decide (x.toNat < s.toNat)).length
theorem rank_lt {c : List (BitVec 64)} {s s' : BitVec 64} (h : s'.toNat < s.toNat) (hm : s' ∈ c) : rank c s' < rank c s := by
  unfold rank
  induction c with
  | nil => cases hm
  | cons x l ih =>
    have mono : ∀ l : List (BitVec 64), (l.filter fun x => decide (x.toNat < s'.toNat)).length ≤ (l.filter fun x => decide (x.toNat < s.toNat)).length := fun l => by
      induction l with
      | nil => exact Nat.le_refl _
      | cons y l ih =>
        rw [List.filter_cons, List.filter_cons]
        by_cases g : y.toNat < s'.toNat
        · rw [if_pos (by simpa using g), if_pos (by simp; omega)]; simp; exact ih
        · rw [if_neg (by simpa using g)]
          split
          · simp; omega
          · exact ih
    rw [List.filter_cons, List.filter_cons]
    rcases List.mem_cons.1 hm with e | e
    · subst e
      rw [if_neg (by simp), if_pos (by simpa using h)]
      have := mono l
      simp; omega
    · have := ih e
      by_cases g : x.toNat < s'.toNat
      · rw [if_pos (by simpa using g), if_pos (by simp; omega)]; simp; exact this
      · rw [if_neg (by simpa using g)]
        split
        · simp; omega
        · exact this
theorem combos_all : ∀ (b : List (BitVec 64)) (s : BitVec 64), (∀ x ∈ b, ∃ j, j < 64 ∧ x = 1#64 <<< j) → s &&& b.foldr (· ||| ·) (BitVec.ofInt 64 0) = s → s ∈ combos b
  | [], s, _, h => by
    have e : s = BitVec.ofInt 64 0 := by
      rw [← h]
      exact bext fun i _ => by rw [bt_and]; show (bt s i && bt (BitVec.ofInt 64 0) i) = bt (BitVec.ofInt 64 0) i; rw [bt_zero, Bool.and_false]
    rw [e]; exact List.mem_cons_self ..
  | x :: l, s, hb, h => by
    obtain ⟨j, hj, rfl⟩ := hb x (List.mem_cons_self ..)
    have h' : s &&& ((1#64 <<< j) ||| l.foldr (· ||| ·) (BitVec.ofInt 64 0)) = s := h
    have hbit : ∀ i, i < 64 → bt s i = true → i = j ∨ bt (l.foldr (· ||| ·) (BitVec.ofInt 64 0)) i = true := fun i hi hs => by
      have := bt_congr h' i
      rw [bt_and, bt_or, bt_one hi, hs, Bool.true_and] at this
      rw [Bool.or_eq_true] at this
      rcases this with e | e
      · exact .inl (by simpa using e)
      · exact .inr e
    show s ∈ combos l ++ (combos l).map ((1#64 <<< j) ||| ·)
    rw [List.mem_append]
    by_cases g : bt (l.foldr (· ||| ·) (BitVec.ofInt 64 0)) j = true ∨ bt s j = false
    · left
      refine combos_all l s (fun x hx => hb x (List.mem_cons_of_mem _ hx)) (bext fun i hi => ?_)
      rw [bt_and]
      cases c : bt s i with
      | false => rfl
      | true =>
        rcases hbit i hi c with e | e
        · subst e
          rcases g with g | g
          · rw [g]; rfl
          · rw [g] at c; cases c
        · rw [e]; rfl
    · right
      have g1 : bt s j = true := by
        cases c : bt s j with
        | true => rfl
        | false => exact absurd (.inr c) g
      have g2 : ∀ i, i < 64 → bt (1#64 <<< j) i = decide (i = j) := fun i hi => bt_one hi
      rw [List.mem_map]
      refine ⟨s &&& ~~~(1#64 <<< j), combos_all l _ (fun x hx => hb x (List.mem_cons_of_mem _ hx)) (bext fun i hi => ?_), bext fun i hi => ?_⟩
      · rw [bt_and, bt_and, bt_not hi, g2 i hi]
        cases c : bt s i with
        | false => simp
        | true =>
          rcases hbit i hi c with e | e
          · simp [e]
          · rw [e]; simp
      · rw [bt_or, bt_and, bt_not hi, g2 i hi]
        by_cases e : i = j
        · subst e; rw [g1]; simp
        · simp [e]
theorem combos_len : ∀ b : List (BitVec 64), (combos b).length = 2 ^ b.length
  | [] => rfl
  | x :: l => by
    show (combos l ++ (combos l).map _).length = _
    rw [List.length_append, List.length_map, combos_len l, List.length_cons, Nat.pow_succ]; omega
theorem downs_len {v m : BitVec 64} {c : List (BitVec 64)} (hc : ∀ s, s &&& m = s → s ∈ c) : ∀ (k : Nat) (s : BitVec 64), s.toNat ≤ k → s &&& m = s → (downs v m s).length ≤ rank c s + 1
  | 0, s, h, _ => by
    have e : s = BitVec.ofInt 64 0 := BitVec.eq_of_toNat_eq (by rw [show (BitVec.ofInt 64 0).toNat = 0 from rfl]; omega)
    subst e; exact Nat.le_add_left _ _
  | k + 1, s, h, hs => by
    by_cases e : s = BitVec.ofInt 64 0
    · subst e; exact Nat.le_add_left _ _
    · rw [downs_step e, List.length_cons]
      have h1 := next_lt (m := m) e
      have h2 := downs_len (v := v) hc k _ (by omega) (next_sub s m)
      have h3 := rank_lt h1 (hc _ (next_sub s m))
      omega
end Go.Tn
