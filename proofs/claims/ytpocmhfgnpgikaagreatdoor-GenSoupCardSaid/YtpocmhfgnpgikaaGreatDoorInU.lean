/-
  Instructions: where subprograms begin and end.
-/
import Derived.Test.YtpocmhfgnpgikaaGreatDoorInT
import Derived.Test.YtpocmhfgnpgikaaGreatDoorSzAI
namespace Go.In
open Go Go.Sy Go.Sz
set_option linter.unusedVariables false
set_option linter.unusedSimpArgs false
def isFrom (l : Slots) (b : Bools) (k : Nat) : Bool := k == 0 || (List.range l.length).any fun j => namesB (slotA l j) && !secA b j && callI l j == (k : Int)
def froms (l : Slots) (b : Bools) : List Nat := (List.range l.length).filter (isFrom l b)
def Targets (l : Slots) (b : Bools) : Prop := ∀ k : Nat, k < l.length → secA b k = false → namesB (slotA l k) = true → 1 ≤ callI l k ∧ callI l k < l.length ∧ secA b (callI l k) = false
def ints (f : List Nat) : Ints := f.map fun k : Nat => ((k : Int), ())
theorem ints_len (f : List Nat) : (ints f).length = f.length := by simp [ints]
theorem froms_rise (l : Slots) (b : Bools) : (froms l b).Pairwise (· < ·) := List.Pairwise.filter _ List.pairwise_lt_range
theorem froms_mem {l : Slots} {b : Bools} {k : Nat} : k ∈ froms l b ↔ k < l.length ∧ isFrom l b k = true := by simp [froms]
theorem froms_len (l : Slots) (b : Bools) : (froms l b).length ≤ l.length := by
  have := List.length_filter_le (isFrom l b) (List.range l.length)
  simpa [froms] using this
theorem froms_once {l : Slots} {b : Bools} (h0 : 0 < l.length) (h : Targets l b) : once (sorted (begL l b l.length)) = ints (froms l b) := by
  have hp : ((froms l b).map fun k : Nat => (k : Int)).Pairwise (· < ·) := by
    rw [List.pairwise_map]
    exact (froms_rise l b).imp fun h => by omega
  rw [once_sorted hp]
  · simp [ints, List.map_map]
  · intro x
    rw [List.mem_map, List.mem_map]
    constructor
    · rintro ⟨k, hk, rfl⟩
      obtain ⟨h1, h2⟩ := froms_mem.1 hk
      unfold isFrom at h2
      rw [Bool.or_eq_true] at h2
      rcases h2 with h2 | h2
      · have : k = 0 := by simpa using h2
        subst this
        exact ⟨(0, ()), by simp [begL], rfl⟩
      · rw [List.any_eq_true] at h2
        obtain ⟨j, hj, h3⟩ := h2
        rw [Bool.and_eq_true] at h3
        refine ⟨(callI l j, ()), ?_, by simpa using h3.2⟩
        unfold begL
        refine List.mem_cons_of_mem _ (List.mem_map.2 ⟨j, List.mem_filter.2 ⟨hj, h3.1⟩, rfl⟩)
    · rintro ⟨y, hy, rfl⟩
      unfold begL at hy
      rw [List.mem_cons] at hy
      rcases hy with rfl | hy
      · exact ⟨0, froms_mem.2 ⟨h0, rfl⟩, rfl⟩
      · obtain ⟨j, hj, rfl⟩ := List.mem_map.1 hy
        obtain ⟨h1, h2⟩ := List.mem_filter.1 hj
        have hj' : j < l.length := by simpa using h1
        have h2' := h2
        rw [Bool.and_eq_true, Bool.not_eq_true'] at h2
        obtain ⟨t1, t2, t3⟩ := h j hj' h2.2 h2.1
        refine ⟨(callI l j).toNat, froms_mem.2 ⟨by omega, ?_⟩, by change ((callI l j).toNat : Int) = callI l j; omega⟩
        unfold isFrom
        rw [Bool.or_eq_true]
        right
        rw [List.any_eq_true]
        refine ⟨j, h1, ?_⟩
        rw [h2']
        simp; omega
def fnA (f : List Nat) (n j : Nat) : Nat := f.getD j n
theorem fnA_in {f : List Nat} {n j : Nat} (h : j < f.length) : fnA f n j = f[j] ∧ fnA f n j ∈ f := by
  have e : fnA f n j = f[j] := by simp [fnA, List.getD_eq_getElem?_getD, h]
  exact ⟨e, by rw [e]; exact List.getElem_mem h⟩
theorem fnA_end {f : List Nat} {n j : Nat} (h : ¬ j < f.length) : fnA f n j = n := by
  simp [fnA, List.getD_eq_getElem?_getD, List.getElem?_eq_none (by omega : f.length ≤ j)]
theorem fnA_zero {l : Slots} {b : Bools} (h0 : 0 < l.length) : fnA (froms l b) l.length 0 = 0 ∧ 0 < (froms l b).length := by
  have hm : 0 ∈ froms l b := froms_mem.2 ⟨h0, rfl⟩
  have hl : 0 < (froms l b).length := List.length_pos_of_mem hm
  refine ⟨?_, hl⟩
  obtain ⟨i, hi, e⟩ := List.mem_iff_getElem.1 hm
  rw [(fnA_in hl).1]
  by_cases g : i = 0
  · subst g; exact e
  · have := List.pairwise_iff_getElem.1 (froms_rise l b) 0 i hl hi (by omega)
    omega
theorem fnA_up {l : Slots} {b : Bools} {j : Nat} (h : j < (froms l b).length) : fnA (froms l b) l.length j < fnA (froms l b) l.length (j + 1) ∧ fnA (froms l b) l.length (j + 1) ≤ l.length := by
  by_cases g : j + 1 < (froms l b).length
  · rw [(fnA_in h).1, (fnA_in g).1]
    have h2 := froms_mem.1 (List.getElem_mem g)
    exact ⟨List.pairwise_iff_getElem.1 (froms_rise l b) j (j + 1) h g (by omega), by omega⟩
  · rw [fnA_end g]
    have h2 := froms_mem.1 (fnA_in (n := l.length) h).2
    exact ⟨h2.1, Nat.le_refl _⟩
theorem fnA_first {l : Slots} {b : Bools} {j : Nat} (h : j < (froms l b).length) (ht : Targets l b) (hs : secA b 0 = false) : secA b (fnA (froms l b) l.length j) = false := by
  obtain ⟨h1, h2⟩ := froms_mem.1 (fnA_in (n := l.length) h).2
  generalize fnA (froms l b) l.length j = k at *
  unfold isFrom at h2
  rw [Bool.or_eq_true] at h2
  rcases h2 with h2 | h2
  · have : k = 0 := by simpa using h2
    subst this; exact hs
  · rw [List.any_eq_true] at h2
    obtain ⟨i, hi, h3⟩ := h2
    rw [Bool.and_eq_true, Bool.and_eq_true, Bool.not_eq_true'] at h3
    have e : callI l i = (k : Int) := by simpa using h3.2
    rw [← e]
    exact (ht i (by simpa using hi) h3.1.2 h3.1.1).2.2
def subsL (l : Slots) (b : Bools) : Parts := (List.range (froms l b).length).map fun j => ((fnA (froms l b) l.length j : Int), (fnA (froms l b) l.length (j + 1) : Int), ())
theorem subsL_len (l : Slots) (b : Bools) : (subsL l b).length = (froms l b).length := by simp [subsL]
theorem subA_ints (f : List Nat) (n j : Nat) (h : j < f.length) : subA n (ints f) j = ((fnA f n j : Int), (fnA f n (j + 1) : Int), ()) := by
  have e : ∀ i, i < f.length → intA (ints f) i = (fnA f n i : Int) := fun i hi => by
    rw [(fnA_in hi).1]
    simp [intA, ints, List.getD_eq_getElem?_getD, hi]
  unfold subA
  rw [e j h, ints_len]
  by_cases g : j + 1 < f.length
  · rw [decide_eq_true g, e _ g]; rfl
  · rw [decide_eq_false g, fnA_end g]; rfl
theorem splitL_ints (l : Slots) (b : Bools) : splitL l.length (ints (froms l b)) (ints (froms l b)).length = subsL l b := by
  unfold splitL subsL
  rw [ints_len]
  refine List.map_congr_left fun j hj => subA_ints _ _ _ (by simpa using hj)
theorem subsL_get {l : Slots} {b : Bools} {j : Nat} (h : j < (froms l b).length) : partOf (subsL l b) j = ((fnA (froms l b) l.length j : Int), (fnA (froms l b) l.length (j + 1) : Int), ()) := by
  simp [partOf, subsL, List.getD_eq_getElem?_getD, h]
theorem subsL_last {l : Slots} {b : Bools} {j : Nat} (h : j < (froms l b).length) (ht : Targets l b) (hs : secA b 0 = false) :
    lastI b (partOf (subsL l b) j) = (if secA b ((fnA (froms l b) l.length (j + 1) : Int) - 1) = true then (fnA (froms l b) l.length (j + 1) : Int) - 2 else (fnA (froms l b) l.length (j + 1) : Int) - 1) ∧ (fnA (froms l b) l.length j : Int) ≤ lastI b (partOf (subsL l b) j) ∧ lastI b (partOf (subsL l b) j) < (fnA (froms l b) l.length (j + 1) : Int) := by
  obtain ⟨u1, u2⟩ := fnA_up h
  have hf := fnA_first h ht hs
  rw [subsL_get h]
  unfold lastI
  generalize fnA (froms l b) l.length j = x at *
  generalize fnA (froms l b) l.length (j + 1) = y at *
  simp only []
  cases c : secA b ((y : Int) - 1) with
  | false => simp; omega
  | true =>
    have : (y : Int) - 1 ≠ x := fun e => by rw [e, hf] at c; cases c
    simp; omega
theorem subs_ends {l : Slots} {b : Bools} (h4 : l.length ≤ 1000000) (ht : Targets l b) (hs : secA b 0 = false) : endsOk l b (subsL l b) ∧ partsIn l (subsL l b) := by
  have hl := froms_len l b
  refine ⟨⟨by rw [subsL_len]; omega, fun j hj => ?_⟩, by rw [subsL_len]; omega, fun j hj => ?_⟩
  · rw [subsL_len] at hj
    obtain ⟨u1, u2⟩ := fnA_up hj
    obtain ⟨v1, v2, v3⟩ := subsL_last hj ht hs
    refine ⟨by omega, ?_⟩
    rw [subsL_get hj]
    constructor <;> simp only [] <;> omega
  · rw [subsL_len] at hj
    obtain ⟨u1, u2⟩ := fnA_up hj
    rw [subsL_get hj]
    constructor <;> simp only [] <;> omega
/-! ### Rows of pieces -/
theorem locate {f : Nat → Nat} : ∀ {m k : Nat}, f 0 ≤ k → k < f m → ∃ j, j < m ∧ f j ≤ k ∧ k < f (j + 1)
  | 0, k, h1, h2 => by omega
  | m + 1, k, h1, h2 => by
    by_cases h : k < f m
    · obtain ⟨j, g1, g2, g3⟩ := locate h1 h
      exact ⟨j, by omega, g2, g3⟩
    · exact ⟨m, by omega, by omega, h2⟩
theorem rises {f : Nat → Nat} {m : Nat} (h : ∀ j, j < m → f j < f (j + 1)) : ∀ {i j : Nat}, i ≤ j → j ≤ m → f i ≤ f j
  | i, 0, h1, _ => by have : i = 0 := by omega
                      subst this; exact Nat.le_refl _
  | i, j + 1, h1, h2 => by
    by_cases e : i = j + 1
    · subst e; exact Nat.le_refl _
    · have := rises h (i := i) (j := j) (by omega) (by omega)
      have := h j (by omega)
      omega
theorem flat {f : Nat → Nat} {q : Nat → Bool} {m : Nat} {F : Nat → Option Nat} (h : ∀ j, j < m → f j < f (j + 1)) (hF : ∀ j, j < m → F j = scan q (f (j + 1) - f j) (f j)) :
    (match scan (fun j => (F j).isSome) m 0 with | none => none | some j => F j) = scan q (f m - f 0) (f 0) := by
  have hq := scan_is (p := q) (n := f m - f 0) (k := f 0)
  have h0 := rises h (i := 0) (j := m) (by omega) (by omega)
  cases g : scan q (f m - f 0) (f 0) with
  | none =>
    rw [g] at hq
    rw [scan_none]
    intro j _ hj
    have := h j (by omega)
    have r1 := rises h (i := 0) (j := j) (by omega) (by omega)
    have r2 := rises h (i := j + 1) (j := m) (by omega) (by omega)
    rw [hF j (by omega), scan_none fun i a1 a2 => hq i (by omega) (by omega)]
    rfl
  | some k =>
    rw [g] at hq
    obtain ⟨a1, a2, a3, a4⟩ := hq
    obtain ⟨j, j1, j2, j3⟩ := locate (f := f) (m := m) a1 (by omega)
    have e : F j = some k := by
      rw [hF j j1]
      have r1 := rises h (i := 0) (j := j) (by omega) (by omega)
      exact scan_some j2 (by omega) a3 fun i b1 b2 => a4 i (by omega) b2
    rw [scan_some (Nat.zero_le _) (by omega) (show (F j).isSome = true by rw [e]; rfl) fun i _ hi => ?_]
    · exact e
    · have r2 := rises h (i := i + 1) (j := j) (by omega) (by omega)
      have r1 := rises h (i := 0) (j := i) (by omega) (by omega)
      have := h i (by omega)
      rw [hF i (by omega), scan_none fun x b1 b2 => a4 x (by omega) (by omega)]
      rfl
/-! ### The reference's words -/
def inPart (p : SubP) (k : Int) : Bool := decide (p.1 ≤ k) && decide (k < p.2.1)
def ofO (ps : Parts) (k : Int) : Option Nat := scan (fun j => inPart (partOf ps j) k) ps.length 0
def ofIs (ps : Parts) (k : Int) : Bool := (ofO ps k).isSome
def ofAt (ps : Parts) (k : Int) : Nat := (ofO ps k).getD 0
def ofI (ps : Parts) (k : Int) : Int := bif ofIs ps k then (ofAt ps k : Int) else -1
def toJ (l : Slots) (k : Int) : Int := toV l.length k (IntKind.i64.wrap (slotA l k.toNat).2.2.2.1)
def refBad (l : Slots) (b : Bools) (ps : Parts) (k : Nat) : Bool := !secA b k && jumpsB (opA l k) && (decide (toJ l k < 0) || secA b (toJ l k) || !(ofI ps (toJ l k) == ofI ps k))
theorem ofI_part {l : Slots} {b : Bools} {j k : Nat} (h : j < (froms l b).length) (h1 : fnA (froms l b) l.length j ≤ k) (h2 : k < fnA (froms l b) l.length (j + 1)) : ofI (subsL l b) k = j := by
  have up : ∀ i, i < (froms l b).length → fnA (froms l b) l.length i < fnA (froms l b) l.length (i + 1) := fun i hi => (fnA_up hi).1
  have hf : ofO (subsL l b) k = some j := by
    unfold ofO
    rw [subsL_len]
    refine scan_some (Nat.zero_le _) (by omega) ?_ fun i _ hi => ?_
    · rw [subsL_get h]
      unfold inPart
      simp; omega
    · rw [subsL_get (by omega)]
      have := rises up (i := i + 1) (j := j) (by omega) (by omega)
      unfold inPart
      simp; omega
  unfold ofI ofIs ofAt
  rw [hf]; rfl
theorem toJ_in {l : Slots} {k : Int} (h1 : 0 ≤ jumpI l k) (h2 : jumpI l k < l.length) : toJ l k = jumpI l k := by
  unfold toJ toV
  change (bif decide (jumpI l k < 0) || decide ((l.length : Int) ≤ jumpI l k) then -1 else jumpI l k) = _
  rw [decide_eq_false (by omega), decide_eq_false (by omega)]; rfl
theorem toJ_out {l : Slots} {k : Int} (h : ¬ (0 ≤ jumpI l k ∧ jumpI l k < l.length)) : toJ l k = -1 := by
  unfold toJ toV
  change (bif decide (jumpI l k < 0) || decide ((l.length : Int) ≤ jumpI l k) then -1 else jumpI l k) = _
  by_cases g : jumpI l k < 0
  · rw [decide_eq_true g]; rfl
  · rw [decide_eq_false g, decide_eq_true (by omega)]; rfl
theorem lead_ref {l : Slots} {b : Bools} {j k : Nat} (h0 : 0 < l.length) (h : j < (froms l b).length) (h1 : fnA (froms l b) l.length j ≤ k) (h2 : k < fnA (froms l b) l.length (j + 1)) : leadBad l b (partOf (subsL l b) j) k = refBad l b (subsL l b) k := by
  have up : ∀ i, i < (froms l b).length → fnA (froms l b) l.length i < fnA (froms l b) l.length (i + 1) := fun i hi => (fnA_up hi).1
  obtain ⟨u1, u2⟩ := fnA_up h
  unfold leadBad refBad
  rw [subsL_get h, ofI_part h h1 h2]
  simp only []
  cases c1 : jumpsB (opA l k) with
  | false => simp
  | true =>
    cases c2 : secA b k with
    | true => simp
    | false =>
      by_cases g : 0 ≤ jumpI l k ∧ jumpI l k < l.length
      · rw [toJ_in g.1 g.2]
        cases c3 : secA b (jumpI l k) with
        | true => simp
        | false =>
          have hz := (fnA_zero (l := l) (b := b) h0).1
          have he : fnA (froms l b) l.length (froms l b).length = l.length := fnA_end (by omega)
          obtain ⟨i, i1, i2, i3⟩ := locate (f := fnA (froms l b) l.length) (m := (froms l b).length) (k := (jumpI l k).toNat) (by omega) (by omega)
          have hi := ofI_part i1 i2 i3
          rw [show (((jumpI l k).toNat : Nat) : Int) = jumpI l k by omega] at hi
          rw [hi]
          have a0 : decide (jumpI l k < 0) = false := decide_eq_false (by omega)
          rw [a0]
          by_cases e : i = j
          · subst e
            have a1 : decide (jumpI l k < (fnA (froms l b) l.length i : Int)) = false := decide_eq_false (by omega)
            have a2 : decide ((fnA (froms l b) l.length (i + 1) : Int) ≤ jumpI l k) = false := decide_eq_false (by omega)
            rw [a1, a2, beq_self_eq_true]; rfl
          · have a3 : ((i : Int) == (j : Int)) = false := beq_false_of_ne (by omega)
            rw [a3]
            rcases Nat.lt_or_gt_of_ne e with x | x
            · have r1 : fnA (froms l b) l.length (i + 1) ≤ fnA (froms l b) l.length j := rises up (by omega) (by omega)
              have a1 : decide (jumpI l k < (fnA (froms l b) l.length j : Int)) = true := decide_eq_true (by omega)
              rw [a1]; rfl
            · have r2 : fnA (froms l b) l.length (j + 1) ≤ fnA (froms l b) l.length i := rises up (by omega) (by omega)
              have a2 : decide ((fnA (froms l b) l.length (j + 1) : Int) ≤ jumpI l k) = true := decide_eq_true (by omega)
              rw [a2, Bool.or_true]; rfl
      · rw [toJ_out g]
        simp; omega
theorem leads_ref {l : Slots} {b : Bools} (h0 : 0 < l.length) : (match scan (fun j => (leadAt l b (partOf (subsL l b) j)).isSome) (subsL l b).length 0 with | none => none | some j => leadAt l b (partOf (subsL l b) j)) = scan (refBad l b (subsL l b)) l.length 0 := by
  have up : ∀ i, i < (froms l b).length → fnA (froms l b) l.length i < fnA (froms l b) l.length (i + 1) := fun i hi => (fnA_up hi).1
  have hz := (fnA_zero (l := l) (b := b) h0).1
  have he : fnA (froms l b) l.length (froms l b).length = l.length := fnA_end (by omega)
  have := flat (f := fnA (froms l b) l.length) (q := refBad l b (subsL l b)) (m := (froms l b).length) (F := fun j => leadAt l b (partOf (subsL l b) j)) up fun j hj => by
    have e : leadAt l b (partOf (subsL l b) j) = scan (leadBad l b (partOf (subsL l b) j)) (fnA (froms l b) l.length (j + 1) - fnA (froms l b) l.length j) (fnA (froms l b) l.length j) := by
      unfold leadAt
      rw [subsL_get hj]
      have := up j hj
      congr 1
      change ((fnA (froms l b) l.length (j + 1) : Int) - (fnA (froms l b) l.length j : Int)).toNat = _
      omega
    rw [e]
    exact scan_congr fun k h1 h2 => by
      have := up j hj
      exact lead_ref h0 hj h1 (by omega)
  rw [subsL_len, this, hz, he]
  rfl
def markTo (l : Slots) (b : Bools) (n k : Nat) : Bool := k == 0 || (List.range n).any fun j => namesB (slotA l j) && !secA b j && callI l j == (k : Int)
def marksL (l : Slots) (b : Bools) (n : Nat) : Bools := (List.range l.length).map fun k => (markTo l b n k, ())
theorem marksL_len (l : Slots) (b : Bools) (n : Nat) : (marksL l b n).length = l.length := by simp [marksL]
theorem marksL_get {l : Slots} {b : Bools} {n k : Nat} (h : k < l.length) : (marksL l b n).getD k (false, ()) = (markTo l b n k, ()) := by
  simp [marksL, List.getD_eq_getElem?_getD, h]
theorem markTo_up (l : Slots) (b : Bools) (n k : Nat) : markTo l b (n + 1) k = (markTo l b n k || (namesB (slotA l n) && !secA b n && callI l n == (k : Int))) := by
  simp only [markTo, List.range_succ, List.any_append, List.any_cons, List.any_nil, Bool.or_false, Bool.or_assoc]
theorem marksL_zero {l : Slots} (b : Bools) (h0 : 0 < l.length) : (List.replicate l.length (false, ())).set 0 (true, ()) = marksL l b 0 := by
  refine ext_getD (false, ()) (by simp [marksL_len]) fun j hj => ?_
  have hj' : j < l.length := by simpa using hj
  rw [marksL_get hj', getD_set _ _ _ _ _ (by simpa using h0)]
  by_cases e : j = 0
  · subst e; rfl
  · rw [if_neg e]
    unfold markTo
    simp [List.getD_eq_getElem?_getD, List.getElem?_replicate, hj', e]
theorem marksL_same {l : Slots} {b : Bools} {n : Nat} (h : (namesB (slotA l n) && !secA b n) = false) : marksL l b (n + 1) = marksL l b n := by
  unfold marksL
  refine List.map_congr_left fun k hk => ?_
  rw [markTo_up, h]; simp
theorem marksL_set {l : Slots} {b : Bools} {n : Nat} (h : (namesB (slotA l n) && !secA b n) = true) (h1 : 0 ≤ callI l n) (h2 : callI l n < l.length) (u : Unit) : (marksL l b n).set (callI l n).toNat (true, u) = marksL l b (n + 1) := by
  refine ext_getD (false, ()) (by simp [marksL_len]) fun j hj => ?_
  have hj' : j < l.length := by simpa [marksL_len] using hj
  rw [marksL_get hj', getD_set _ _ _ _ _ (by rw [marksL_len]; omega), marksL_get hj', markTo_up, h]
  by_cases e : j = (callI l n).toNat
  · rw [if_pos e]
    have : (callI l n == (j : Int)) = true := by simp; omega
    rw [this]; simp
  · rw [if_neg e]
    have : (callI l n == (j : Int)) = false := by simp; omega
    rw [this]; simp
def fromsTo (l : Slots) (b : Bools) (n : Nat) : List Nat := (List.range n).filter (isFrom l b)
theorem fromsTo_up (l : Slots) (b : Bools) (n : Nat) : ints (fromsTo l b (n + 1)) = ints (fromsTo l b n) ++ bif isFrom l b n then [((n : Int), ())] else [] := by
  simp only [fromsTo, List.range_succ, List.filter_append]
  cases h : isFrom l b n with
  | false => rw [List.filter_cons_of_neg (by rw [h]; exact Bool.false_ne_true)]; simp [ints]
  | true => rw [List.filter_cons_of_pos h]; simp [ints]
theorem fromsTo_len (l : Slots) (b : Bools) (n : Nat) : (ints (fromsTo l b n)).length ≤ n := by
  rw [ints_len]
  have := List.length_filter_le (isFrom l b) (List.range n)
  simpa [fromsTo] using this
theorem subsL_take {l : Slots} {b : Bools} {j : Nat} (h : j < (froms l b).length) : (subsL l b).take (j + 1) = (subsL l b).take j ++ [((fnA (froms l b) l.length j : Int), (fnA (froms l b) l.length (j + 1) : Int), ())] := by
  rw [List.take_add_one]
  congr 1
  simp [subsL, h]
theorem ints_get {f : List Nat} {n j : Nat} (h : j < f.length) : ((ints f).getD j (0, ())).1 = (fnA f n j : Int) := by
  rw [(fnA_in h).1]
  simp [ints, List.getD_eq_getElem?_getD, h]
end Go.In
