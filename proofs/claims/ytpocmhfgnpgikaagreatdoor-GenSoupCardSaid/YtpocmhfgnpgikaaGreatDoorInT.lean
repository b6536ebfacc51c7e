/-
  Instructions: what the functions over slots tell, in plain words.
-/
import Derived.Test.YtpocmhfgnpgikaaGreatDoorInS
namespace Go.In
open Go Go.Sy Go.Sz
set_option linter.unusedVariables false
set_option linter.unusedSimpArgs false
/-! ### The first place of some -/
def scan (p : Nat → Bool) : Nat → Nat → Option Nat
  | 0, _ => none
  | n + 1, k => match p k with
    | true => some k
    | false => scan p n (k + 1)
theorem scan_none {p : Nat → Bool} : ∀ {n k : Nat}, (∀ j, k ≤ j → j < k + n → p j = false) → scan p n k = none
  | 0, _, _ => rfl
  | n + 1, k, h => by
    unfold scan
    rw [h k (Nat.le_refl _) (by omega)]
    exact scan_none fun j h1 h2 => h j (by omega) (by omega)
theorem scan_some {p : Nat → Bool} : ∀ {n k j : Nat}, k ≤ j → j < k + n → p j = true → (∀ i, k ≤ i → i < j → p i = false) → scan p n k = some j
  | 0, _, _, h1, h2, _, _ => by omega
  | n + 1, k, j, h1, h2, h3, h4 => by
    unfold scan
    by_cases e : k = j
    · subst e; rw [h3]
    · rw [h4 k (Nat.le_refl _) (by omega)]
      exact scan_some (by omega) (by omega) h3 fun i g1 g2 => h4 i (by omega) g2
theorem scan_is {p : Nat → Bool} : ∀ {n k : Nat}, match scan p n k with
    | none => ∀ j, k ≤ j → j < k + n → p j = false
    | some j => k ≤ j ∧ j < k + n ∧ p j = true ∧ ∀ i, k ≤ i → i < j → p i = false
  | 0, k => fun j h1 h2 => by omega
  | n + 1, k => by
    unfold scan
    cases h : p k with
    | true => exact ⟨Nat.le_refl _, by omega, h, fun i h1 h2 => by omega⟩
    | false =>
      have ih := scan_is (p := p) (n := n) (k := k + 1)
      simp only []
      cases g : scan p n (k + 1) with
      | none =>
        rw [g] at ih
        intro j h1 h2
        by_cases e : j = k
        · subst e; exact h
        · exact ih j (by omega) (by omega)
      | some j =>
        rw [g] at ih
        obtain ⟨i1, i2, i3, i4⟩ := ih
        refine ⟨by omega, by omega, i3, fun i h1 h2 => ?_⟩
        by_cases e : i = k
        · subst e; exact h
        · exact i4 i (by omega) h2
theorem scan_congr {p q : Nat → Bool} {n k : Nat} (h : ∀ j, k ≤ j → j < k + n → p j = q j) : scan p n k = scan q n k := by
  have h1 := scan_is (p := p) (n := n) (k := k)
  cases g : scan p n k with
  | none => rw [g] at h1; exact (scan_none fun j a b => by rw [← h j a b]; exact h1 j a b).symm
  | some j =>
    rw [g] at h1
    obtain ⟨a, b, c, d⟩ := h1
    exact (scan_some a b (by rw [← h j a b]; exact c) fun i x y => by rw [← h i x (by omega)]; exact d i x y).symm
/-! ### Slots -/
abbrev slotA (l : Slots) (k : Nat) : Ins := l.getD k noIns
abbrev opA (l : Slots) (k : Nat) : BitVec 8 := (l.getD k noIns).1
def secB (l : Slots) : Nat → Bool
  | 0 => false
  | k + 1 => opA l k == BitVec.ofInt 8 24 && !secB l k
def secs (l : Slots) : Bools := (List.range l.length).map fun k => (secB l k, ())
theorem secs_len (l : Slots) : (secs l).length = l.length := by simp [secs]
theorem secs_get {l : Slots} {k : Nat} (h : k < l.length) : ((secs l).getD k (false, ())).1 = secB l k := by
  simp [secs, List.getD_eq_getElem?_getD, h]
def wholeB (l : Slots) (k : Nat) : Bool :=
  bif decide (l.length ≤ k + 1) then false else
    (l.getD (k + 1) noIns).1 == BitVec.ofInt 8 0 && ((l.getD (k + 1) noIns).2.1 == BitVec.ofInt 8 0 && ((l.getD (k + 1) noIns).2.2.1 == BitVec.ofInt 8 0 && ((l.getD (k + 1) noIns).2.2.2.1 == 0 &&
      ((bif (l.getD k noIns).2.2.1 == BitVec.ofInt 8 0 then 0 else (l.getD (k + 1) noIns).2.2.2.2.1) == 0))))
def namesB (x : Ins) : Bool := (x.1 == BitVec.ofInt 8 133 && x.2.2.1 == BitVec.ofInt 8 1) || (x.1 == BitVec.ofInt 8 24 && x.2.2.1 == BitVec.ofInt 8 4)
def jumpsB (o : BitVec 8) : Bool := (o &&& BitVec.ofInt 8 7 == BitVec.ofInt 8 5 || o &&& BitVec.ofInt 8 7 == BitVec.ofInt 8 6) && !(o >>> 4 == BitVec.ofInt 8 8) && !(o >>> 4 == BitVec.ofInt 8 9)
def goI (k d : Int) : Int := IntKind.i64.wrap (IntKind.i64.wrap (k + 1) + d)
def callI (l : Slots) (k : Int) : Int := goI k (IntKind.i64.wrap (slotA l k.toNat).2.2.2.2.1)
def jumpI (l : Slots) (k : Int) : Int := goI k (IntKind.i64.wrap (slotA l k.toNat).2.2.2.1)
def toV (n : Nat) (k d : Int) : Int := bif decide (goI k d < 0) || decide ((n : Int) ≤ goI k d) then -1 else goI k d
def secA (b : Bools) (k : Int) : Bool := (b.getD k.toNat (false, ())).1
def begL (l : Slots) (b : Bools) (n : Nat) : Ints := (0, ()) :: ((List.range n).filter fun k : Nat => namesB (slotA l k) && !secA b k).map fun k : Nat => (callI l k, ())
abbrev intA (r : Ints) (j : Nat) : Int := (r.getD j (0, ())).1
def subA (n : Nat) (fr : Ints) (j : Nat) : SubP := (intA fr j, (bif decide (j + 1 < fr.length) then intA fr (j + 1) else (n : Int)), ())
def splitL (n : Nat) (fr : Ints) (m : Nat) : Parts := (List.range m).map (subA n fr)
abbrev partOf (ps : Parts) (j : Nat) : SubP := ps.getD j (0, 0, ())
def lastI (b : Bools) (p : SubP) : Int := bif secA b (p.2.1 - 1) then p.2.1 - 2 else p.2.1 - 1
def endBad (l : Slots) (b : Bools) (p : SubP) : Bool := !(opA l (lastI b p).toNat == BitVec.ofInt 8 149) && !(opA l (lastI b p).toNat == BitVec.ofInt 8 5)
def leadBad (l : Slots) (b : Bools) (p : SubP) (k : Nat) : Bool := jumpsB (opA l k) && !secA b k && (decide (jumpI l k < p.1) || decide (p.2.1 ≤ jumpI l k) || secA b (jumpI l k))
def leadAt (l : Slots) (b : Bools) (p : SubP) : Option Nat := scan (leadBad l b p) (p.2.1 - p.1).toNat p.1.toNat
def lenOk (l : Slots) (b : Bools) : Prop := l.length ≤ 140737488355328 ∧ b.length = l.length
def partsIn (l : Slots) (ps : Parts) : Prop := ps.length ≤ 1000000 ∧ ∀ j, j < ps.length → 0 ≤ (partOf ps j).1 ∧ (partOf ps j).2.1 ≤ l.length
def endsOk (l : Slots) (b : Bools) (ps : Parts) : Prop := ps.length ≤ 1000000 ∧ ∀ j, j < ps.length → 0 ≤ lastI b (partOf ps j) ∧ 1 ≤ (partOf ps j).2.1 ∧ (partOf ps j).2.1 ≤ l.length
/-! ### Of the loops -/
theorem scan_hit {p : Nat → Bool} {n : Nat} {i : Int} (h1 : 0 ≤ i) (hi : i < n) (h : ∀ j : Nat, (j : Int) < i → p j = false) (hp : p i.toNat = true) : scan p n 0 = some i.toNat :=
  scan_some (Nat.zero_le _) (by omega) hp fun j _ hj => h j (by omega)
theorem scan_end {p : Nat → Bool} {n : Nat} {i : Int} (hi : ¬ i < n) (h : ∀ j : Nat, (j : Int) < i → p j = false) : scan p n 0 = none :=
  scan_none fun j _ hj => h j (by omega)
theorem all_succ {P : Nat → Prop} {i : Int} (h1 : 0 ≤ i) (h : ∀ j : Nat, (j : Int) < i → P j) (hi : P i.toNat) : ∀ j : Nat, (j : Int) < i + 1 → P j := fun j hj => by
  by_cases e : (j : Int) = i
  · have : j = i.toNat := by omega
    rw [this]; exact hi
  · exact h j (by omega)
theorem toNat_up {i : Int} (h : 0 ≤ i) : (i + 1).toNat = i.toNat + 1 := by omega
theorem ofToNat {i : Int} (h : 0 ≤ i) : ((i.toNat : Nat) : Int) = i := by omega
theorem getD_set {α : Type} (l : List α) (i j : Nat) (x d : α) (hi : i < l.length) : (l.set i x).getD j d = if j = i then x else l.getD j d := by
  rw [List.getD_eq_getElem?_getD, List.getElem?_set, List.getD_eq_getElem?_getD]
  by_cases e : i = j
  · subst e; simp [hi]
  · rw [if_neg e, if_neg (by omega)]
theorem ext_getD {α : Type} {a b : List α} (d : α) (h : a.length = b.length) (h2 : ∀ j, j < a.length → a.getD j d = b.getD j d) : a = b := by
  refine List.ext_getElem h fun j h3 h4 => ?_
  have := h2 j h3
  rw [List.getD_eq_getElem?_getD, List.getD_eq_getElem?_getD, List.getElem?_eq_getElem h3, List.getElem?_eq_getElem h4] at this
  exact this
theorem secs_ext {l : Slots} {o : Bools} (h : o.length = l.length) (h2 : ∀ j : Nat, (j : Int) < l.length → (o.getD j (false, ())).1 = secB l j) : o = secs l := by
  refine ext_getD (false, ()) (by rw [secs_len, h]) fun j hj => ?_
  have e1 := h2 j (by omega)
  have e2 := secs_get (l := l) (k := j) (by omega)
  exact Prod.ext (e1.trans e2.symm) rfl
theorem begL_len (l : Slots) (b : Bools) (n : Nat) : (begL l b n).length ≤ n + 1 := by
  have := List.length_filter_le (fun k : Nat => namesB (slotA l k) && !secA b k) (List.range n)
  simp only [List.length_range] at this
  simp only [begL, List.length_cons, List.length_map]
  omega
theorem begL_up (l : Slots) (b : Bools) (n : Nat) : begL l b (n + 1) = begL l b n ++ bif namesB (slotA l n) && !secA b n then [(callI l n, ())] else [] := by
  simp only [begL, List.range_succ, List.filter_append, List.map_append, List.cons_append]
  congr 2
  cases h : (namesB (slotA l n) && !secA b n) with
  | false => rw [List.filter_cons_of_neg (p := fun k : Nat => namesB (slotA l k) && !secA b k) (by rw [h]; exact Bool.false_ne_true)]; rfl
  | true => rw [List.filter_cons_of_pos (p := fun k : Nat => namesB (slotA l k) && !secA b k) h]; rfl
theorem splitL_len (n : Nat) (fr : Ints) (m : Nat) : (splitL n fr m).length = m := by simp [splitL]
theorem splitL_up (n : Nat) (fr : Ints) (m : Nat) : splitL n fr (m + 1) = splitL n fr m ++ [subA n fr m] := by simp [splitL, List.range_succ]
end Go.In
