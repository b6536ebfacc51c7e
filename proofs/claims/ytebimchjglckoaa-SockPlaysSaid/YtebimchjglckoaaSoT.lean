/-
  Counts that rise and fall.
-/
import Derived.Test.YtebimchjglckoaaSoS
namespace Go.So
open Go Go.Sy Go.Sz
set_option linter.unusedVariables false
set_option linter.unusedSimpArgs false

def nought : Bys := List.replicate 20 (BitVec.ofInt 8 0, ())
def noughts (k : Nat) : Rws := List.replicate k (nought, ())
/-- counts less one -/
def less (l : Ints) : Nat → List Int
  | 0 => []
  | k + 1 => less l k ++ [(l.getD k (1, ())).1 - 1]
/-- which one a turn takes or drops -/
def which (x : BitVec 8) (n : Int) : Int := (((x / BitVec.ofInt 8 2).toNat : Nat) : Int).tmod n
def takes (x : BitVec 8) : Bool := x % BitVec.ofInt 8 2 == BitVec.ofInt 8 0
def num (l : Ints) (k : Int) : Int := (l.getD k.toNat (0, ())).1
def play (x : BitVec 8) (n : Int) (l : Ints) : Ints :=
  bif takes x then l.set (which x n).toNat (num l (which x n) + 1, ())
  else bif num l (which x n) == 1 then l else l.set (which x n).toNat (num l (which x n) - 1, ())
theorem which_range (x : BitVec 8) {n : Int} (h : 1 ≤ n) : 0 ≤ which x n ∧ which x n < n :=
  ⟨Int.tmod_nonneg _ (by omega), Int.tmod_lt_of_pos _ (by omega)⟩
theorem less_len (l : Ints) : ∀ k, (less l k).length = k
  | 0 => rfl
  | k + 1 => by simp [less, less_len l k]
theorem less_get (l : Ints) : ∀ (k i : Nat), i < k → (less l k).getD i 0 = (l.getD i (1, ())).1 - 1
  | 0, i, h => by omega
  | k + 1, i, h => by
    simp only [less]
    by_cases hi : i < k
    · rw [List.getD_eq_getElem?_getD, List.getElem?_append_left (by rw [less_len]; exact hi), ← List.getD_eq_getElem?_getD]; exact less_get l k i hi
    · have : i = k := by omega
      subst this
      rw [List.getD_eq_getElem?_getD, List.getElem?_append_right (by rw [less_len]; exact Nat.le_refl _), less_len, Nat.sub_self]; rfl
theorem getD_dflt {l : Ints} {k : Nat} (h : k < l.length) (d e : Int × Unit) : l.getD k d = l.getD k e := by
  simp [List.getD, List.getElem?_eq_getElem h]
theorem less_set (l : Ints) (i : Nat) (v : Int) (hi : i < l.length) : ∀ k, less (l.set i (v, ())) k = (less l k).set i (v - 1)
  | 0 => rfl
  | k + 1 => by
    simp only [less, less_set l i v hi k]
    by_cases h : i < k
    · rw [List.set_append_left _ _ (by rw [less_len]; exact h)]
      have : (l.set i (v, ())).getD k (1, ()) = l.getD k (1, ()) := by simp [List.getD, List.getElem?_set_ne (show i ≠ k by omega)]
      rw [this]
    · by_cases h2 : i = k
      · subst h2
        rw [List.set_append_right _ _ (by rw [less_len]; exact Nat.le_refl _), less_len, Nat.sub_self]
        have h3 : (less l i).set i (v - 1) = less l i := List.set_eq_of_length_le (by rw [less_len]; exact Nat.le_refl _)
        rw [h3]
        simp [List.getD, List.getElem?_set_self hi]
      · rw [List.set_append_right _ _ (by rw [less_len]; omega)]
        have h3 : (less l k).set i (v - 1) = less l k := List.set_eq_of_length_le (by rw [less_len]; omega)
        have : (l.set i (v, ())).getD k (1, ()) = l.getD k (1, ()) := by simp [List.getD, List.getElem?_set_ne h2]
        rw [h3, this, less_len, List.set_eq_of_length_le (by simp; omega)]
def plays (t : Bys) (n : Int) (i : Nat) (l : Ints) : Ints := (t.drop i).foldl (fun l x => play x.1 n l) l
def at16 (l : Ints) (k : Nat) : Cell := .v (.int .i64 ((l.getD k (1, ())).1 - 1))
def cntG (n : Int) (l : Ints) (b : Rws) : Tree (Ex × St) :=
  .ret (.exit 2, ⟨[(0, AV.c (.v (.int .i64 n))), (7, .p (.one (.p 0 0))), (9, .p (.one (.p 1 0)))], [(0, .lit [.h 2, .h 3]), (1, .lit [at16 l 0, at16 l 1, at16 l 2, at16 l 3, at16 l 4, at16 l 5, at16 l 6, at16 l 7, at16 l 8, at16 l 9, at16 l 10, at16 l 11, at16 l 12, at16 l 13, at16 l 14, at16 l 15]), (2, .row intsT l), (3, .row rowsT b)], 4⟩)
theorem which_eq (x : BitVec 8) (n : Int) : (((x / BitVec.ofInt 8 2).toNat : Nat) : Int).tmod n = which x n := rfl
theorem takes_eq (x : BitVec 8) : (x % BitVec.ofInt 8 2 == BitVec.ofInt 8 0) = takes x := rfl
theorem set16 (k : Nat) (v c0 c1 c2 c3 c4 c5 c6 c7 c8 c9 c10 c11 c12 c13 c14 c15 : Int) :
    [bif Nat.beq k 0 then v else c0, bif Nat.beq k 1 then v else c1, bif Nat.beq k 2 then v else c2, bif Nat.beq k 3 then v else c3, bif Nat.beq k 4 then v else c4, bif Nat.beq k 5 then v else c5, bif Nat.beq k 6 then v else c6, bif Nat.beq k 7 then v else c7,
     bif Nat.beq k 8 then v else c8, bif Nat.beq k 9 then v else c9, bif Nat.beq k 10 then v else c10, bif Nat.beq k 11 then v else c11, bif Nat.beq k 12 then v else c12, bif Nat.beq k 13 then v else c13, bif Nat.beq k 14 then v else c14, bif Nat.beq k 15 then v else c15]
    = [c0, c1, c2, c3, c4, c5, c6, c7, c8, c9, c10, c11, c12, c13, c14, c15].set k v := by
  match k with
  | 0 => rfl
  | 1 => rfl
  | 2 => rfl
  | 3 => rfl
  | 4 => rfl
  | 5 => rfl
  | 6 => rfl
  | 7 => rfl
  | 8 => rfl
  | 9 => rfl
  | 10 => rfl
  | 11 => rfl
  | 12 => rfl
  | 13 => rfl
  | 14 => rfl
  | 15 => rfl
  | k + 16 => rfl
def bounded (l : Ints) (m : Int) : Prop := ∀ x ∈ l, 1 ≤ x.1 ∧ x.1 ≤ m
theorem bounded_mono {l : Ints} {m m' : Int} (h : bounded l m) (hm : m ≤ m') : bounded l m' := fun x hx => ⟨(h x hx).1, by have := (h x hx).2; omega⟩
theorem bounded_num {l : Ints} {m k : Int} (h : bounded l m) (h0 : 0 ≤ k) (hk : k < l.length) : 1 ≤ num l k ∧ num l k ≤ m := by
  have hk' : k.toNat < l.length := by omega
  have : l.getD k.toNat (0, ()) = l[k.toNat] := by simp [List.getD, List.getElem?_eq_getElem hk']
  unfold num
  rw [this]
  exact h _ (List.getElem_mem hk')
theorem bounded_set {l : Ints} {m : Int} (h : bounded l m) (i : Nat) (v : Int) (h0 : 1 ≤ v) (h1 : v ≤ m) : bounded (l.set i (v, ())) m := fun x hx => by
  rcases List.mem_or_eq_of_mem_set hx with hx | rfl
  · exact h x hx
  · exact ⟨h0, h1⟩
theorem play_len (x : BitVec 8) (n : Int) (l : Ints) : (play x n l).length = l.length := by
  unfold play
  cases takes x <;> simp only [cond_true, cond_false]
  · cases num l (which x n) == 1 <;> simp
  · simp
theorem play_bounded {x : BitVec 8} {n : Int} {l : Ints} {m : Int} (hn : 1 ≤ n) (hl : (l.length : Int) = n) (h : bounded l m) : bounded (play x n l) (m + 1) := by
  obtain ⟨w0, w1⟩ := which_range x hn
  obtain ⟨g0, g1⟩ := bounded_num h w0 (by omega)
  unfold play
  cases takes x <;> simp only [cond_true, cond_false]
  · cases hb : num l (which x n) == 1 <;> simp only [cond_true, cond_false]
    · have : num l (which x n) ≠ 1 := by simpa using hb
      exact bounded_set (bounded_mono h (by omega)) _ _ (by omega) (by omega)
    · exact bounded_mono h (by omega)
  · exact bounded_set (bounded_mono h (by omega)) _ _ (by omega) (by omega)
theorem plays_facts (t : List (BitVec 8 × Unit)) {n : Int} (hn : 1 ≤ n) : ∀ (l : Ints) (m : Int), (l.length : Int) = n → bounded l m → ((t.foldl (fun l x => play x.1 n l) l).length : Int) = n ∧ bounded (t.foldl (fun l x => play x.1 n l) l) (m + t.length) := by
  induction t with
  | nil => intro l m h1 h2; exact ⟨h1, by simpa using h2⟩
  | cons x t ih =>
    intro l m h1 h2
    have := ih (play x.1 n l) (m + 1) (by rw [play_len]; exact h1) (play_bounded hn h1 h2)
    simp only [List.foldl_cons, List.length_cons]
    rw [show m + ((t.length + 1 : Nat) : Int) = m + 1 + t.length by omega]
    exact this
end Go.So
