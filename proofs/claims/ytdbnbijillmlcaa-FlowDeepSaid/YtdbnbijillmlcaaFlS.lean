/-
  Control flow: what the package tells, said of slots.
-/
import Derived.Test.YtdbnbijillmlcaaInX
namespace Go.Fl
open Go Go.Sy Go.Sz Go.In
set_option linter.unusedVariables false
set_option linter.unusedSimpArgs false

/-- an operation that is a jump, of known ones -/
def jmpB (o : BitVec 8) : Bool := (o &&& BitVec.ofInt 8 7 == BitVec.ofInt 8 5 || o &&& BitVec.ofInt 8 7 == BitVec.ofInt 8 6) && (!(o == BitVec.ofInt 8 133) && !(o == BitVec.ofInt 8 149))
def toI (l : Slots) (k : Int) : Int := jumpI l k
/-- where an operation's subprogram goes on -/
def nextL (l : Slots) (k : Int) : Ints :=
  bif opA l k.toNat == BitVec.ofInt 8 149 then [] else
  bif opA l k.toNat == BitVec.ofInt 8 24 then [(IntKind.i64.wrap (k + 2), ())] else
  bif !jmpB (opA l k.toNat) then [(IntKind.i64.wrap (k + 1), ())] else
  bif opA l k.toNat == BitVec.ofInt 8 5 || toI l k == IntKind.i64.wrap (k + 1) then [(toI l k, ())] else [(IntKind.i64.wrap (k + 1), ()), (toI l k, ())]
/-- slots that are gone through: of those that wait the last one first -/
def dfs (nx : Int → Ints) : Nat → Bools → Ints → Bools
  | 0, o, _ => o
  | n + 1, o, w => if w.length = 0 then o else
    bif (o.getD (w.getD (w.length - 1) (0, ())).1.toNat (false, ())).1 then dfs nx n o (w.take (w.length - 1))
    else dfs nx n (o.set (w.getD (w.length - 1) (0, ())).1.toNat (true, ())) (w.take (w.length - 1) ++ nx (w.getD (w.length - 1) (0, ())).1)

def falses (o : Bools) : Nat := (o.filter fun x => !x.1).length
def lastK (w : Ints) : Int := (w.getD (w.length - 1) (0, ())).1
def todo (o : Bools) (w : Ints) : Nat := 4 * falses o + w.length
theorem getD_any {α : Type} {l : List α} {k : Nat} (h : k < l.length) (d e : α) : l.getD k d = l.getD k e := by
  rw [List.getD_eq_getElem?_getD, List.getD_eq_getElem?_getD, List.getElem?_eq_getElem h]; rfl
/-- what a step keeps -/
structure Keeps (nx : Int → Ints) (Good : Int → Prop) (n : Nat) : Prop where
  inn : ∀ k, Good k → 0 ≤ k ∧ k.toNat < n
  next : ∀ k, Good k → ∀ x ∈ nx k, Good x.1
  few : ∀ k, Good k → (nx k).length ≤ 3

theorem falses_set : ∀ {o : Bools} {k : Nat}, k < o.length → (o.getD k (false, ())).1 = false → falses (o.set k (true, ())) + 1 = falses o
  | [], k, h, _ => absurd h (Nat.not_lt_zero _)
  | (b, u) :: o, 0, _, h2 => by
    have : b = false := h2
    subst this; rfl
  | (b, u) :: o, k + 1, h, h2 => by
    have ih := falses_set (o := o) (k := k) (Nat.lt_of_succ_lt_succ h) h2
    have e : ∀ o' : Bools, falses ((b, u) :: o') = (bif b then 0 else 1) + falses o' := fun o' => by
      unfold falses; rw [List.filter_cons]
      cases b
      · simp; omega
      · simp
    rw [List.set_cons_succ, e, e]; omega
theorem falses_new (n : Nat) : falses (List.replicate n (false, ())) = n := by
  induction n with
  | zero => rfl
  | succ n ih => unfold falses at *; rw [List.replicate_succ, List.filter_cons]; simp at ih ⊢
theorem lastK_mem {w : Ints} (h : w.length ≠ 0) : (lastK w, ()) ∈ w := by
  unfold lastK
  rw [List.getD_eq_getElem?_getD, List.getElem?_eq_getElem (by omega)]
  exact List.getElem_mem _
theorem take_mem {w : Ints} {n : Nat} {x : Int × Unit} (h : x ∈ w.take n) : x ∈ w := List.mem_of_mem_take h
theorem dfs_nil {nx : Int → Ints} (n : Nat) (o : Bools) {w : Ints} (h : w.length = 0) : dfs nx n o w = o := by
  cases n with
  | zero => rfl
  | succ n => unfold dfs; rw [if_pos h]
theorem dfs_old {nx : Int → Ints} (n : Nat) {o : Bools} {w : Ints} (h : w.length ≠ 0) (hk : (o.getD (lastK w).toNat (false, ())).1 = true) : dfs nx (n + 1) o w = dfs nx n o (w.take (w.length - 1)) := by
  unfold lastK at hk
  conv => lhs; unfold dfs
  rw [if_neg h, hk]; rfl
theorem dfs_new {nx : Int → Ints} (n : Nat) {o : Bools} {w : Ints} (h : w.length ≠ 0) (hk : (o.getD (lastK w).toNat (false, ())).1 = false) : dfs nx (n + 1) o w = dfs nx n (o.set (lastK w).toNat (true, ())) (w.take (w.length - 1) ++ nx (lastK w)) := by
  unfold lastK at hk ⊢
  conv => lhs; unfold dfs
  rw [if_neg h, hk]; rfl
section
variable {nx : Int → Ints} {Good : Int → Prop} {n : Nat}
theorem Keeps.step (W : Keeps nx Good n) {o : Bools} {w : Ints} (ho : o.length = n) (hw : ∀ x ∈ w, Good x.1) (h : w.length ≠ 0) :
    Good (lastK w) ∧ (∀ x ∈ w.take (w.length - 1), Good x.1) ∧ (w.take (w.length - 1)).length + 1 = w.length ∧ (∀ x ∈ w.take (w.length - 1) ++ nx (lastK w), Good x.1) ∧ (nx (lastK w)).length ≤ 3 := by
  have hg : Good (lastK w) := hw _ (lastK_mem h)
  refine ⟨hg, fun x hx => hw x (take_mem hx), by rw [List.length_take]; omega, fun x hx => ?_, W.few _ hg⟩
  rcases List.mem_append.1 hx with hx | hx
  · exact hw x (take_mem hx)
  · exact W.next _ hg x hx
theorem dfs_fuel (W : Keeps nx Good n) : ∀ (m j : Nat) (o : Bools) (w : Ints), o.length = n → (∀ x ∈ w, Good x.1) → todo o w ≤ m → todo o w ≤ j → dfs nx m o w = dfs nx j o w
  | 0, j, o, w, _, _, h, _ => by
    have : w.length = 0 := by unfold todo at h; omega
    rw [dfs_nil _ _ this, dfs_nil _ _ this]
  | m + 1, 0, o, w, _, _, _, h => by
    have : w.length = 0 := by unfold todo at h; omega
    rw [dfs_nil _ _ this, dfs_nil _ _ this]
  | m + 1, j + 1, o, w, ho, hw, h1, h2 => by
    by_cases h0 : w.length = 0
    · rw [dfs_nil _ _ h0, dfs_nil _ _ h0]
    · obtain ⟨hg, g1, g2, g3, g4⟩ := W.step ho hw h0
      obtain ⟨i1, i2⟩ := W.inn _ hg
      unfold todo at h1 h2
      cases c : (o.getD (lastK w).toNat (false, ())).1 with
      | true =>
        rw [dfs_old _ h0 c, dfs_old _ h0 c]
        exact dfs_fuel W m j o _ ho g1 (by unfold todo; omega) (by unfold todo; omega)
      | false =>
        have hf := falses_set (o := o) (k := (lastK w).toNat) (by omega) c
        rw [dfs_new _ h0 c, dfs_new _ h0 c]
        exact dfs_fuel W m j _ _ (by rw [List.length_set]; exact ho) g3 (by unfold todo; rw [List.length_append]; omega) (by unfold todo; rw [List.length_append]; omega)
theorem dfs_good (W : Keeps nx Good n) : ∀ (m : Nat) (o : Bools) (w : Ints), o.length = n → (∀ x ∈ w, Good x.1) → (∀ k : Nat, (o.getD k (false, ())).1 = true → Good k) → (dfs nx m o w).length = n ∧ ∀ k : Nat, ((dfs nx m o w).getD k (false, ())).1 = true → Good k
  | 0, o, w, ho, _, ht => ⟨ho, ht⟩
  | m + 1, o, w, ho, hw, ht => by
    by_cases h0 : w.length = 0
    · rw [dfs_nil _ _ h0]; exact ⟨ho, ht⟩
    · obtain ⟨hg, g1, g2, g3, g4⟩ := W.step ho hw h0
      obtain ⟨i1, i2⟩ := W.inn _ hg
      cases c : (o.getD (lastK w).toNat (false, ())).1 with
      | true => rw [dfs_old _ h0 c]; exact dfs_good W m o _ ho g1 ht
      | false =>
        rw [dfs_new _ h0 c]
        refine dfs_good W m _ _ (by rw [List.length_set]; exact ho) g3 fun k hk => ?_
        rw [getD_set _ _ _ _ _ (by omega)] at hk
        by_cases e : k = (lastK w).toNat
        · rw [e, show (((lastK w).toNat : Nat) : Int) = lastK w by omega]; exact hg
        · rw [if_neg e] at hk; exact ht k hk
end
end Go.Fl
