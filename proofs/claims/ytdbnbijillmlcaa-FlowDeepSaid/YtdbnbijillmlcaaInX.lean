/-
  Instructions: a row of subprograms, each called by the first one.
-/
import Derived.Test.YtdbnbijillmlcaaInW
namespace Go.In
open Go Go.Sy Go.Sz
set_option linter.unusedVariables false
set_option linter.unusedSimpArgs false

@[reducible] def callTo (d : Int) : Ins := (BitVec.ofInt 8 133, BitVec.ofInt 8 0, BitVec.ofInt 8 1, 0, d, ())
/-- n - 1 calls and an Exit; n - 1 subprograms of s operations each -/
def slotP (n s k : Nat) : Ins := if k + 1 < n then callTo ((n : Int) - 1 - k + (k * s : Nat)) else if k + 1 = n then exitI else if (k - n) % s + 1 = s then exitI else movI
def rowP (n s m : Nat) : Slots := (List.range m).map (slotP n s)
theorem rowP_len (n s m : Nat) : (rowP n s m).length = m := by simp [rowP]
theorem rowP_up (n s m : Nat) : rowP n s (m + 1) = rowP n s m ++ [slotP n s m] := by simp [rowP, List.range_succ]
theorem rowP_get {n s m k : Nat} (h : k < m) : slotA (rowP n s m) k = slotP n s k := by
  simp [slotA, rowP, List.getD_eq_getElem?_getD, List.getElem?_map, List.getElem?_range h]
theorem mod_in {a b c : Nat} (h : c < b) : (a * b + c) % b = c := by
  rw [Nat.add_comm, Nat.add_mul_mod_self_right, Nat.mod_eq_of_lt h]
theorem slotP_call {n s k : Nat} (h : k + 1 < n) : slotP n s k = callTo ((n : Int) - 1 - k + (k * s : Nat)) := if_pos h
theorem slotP_exit {n s k : Nat} (h : k + 1 = n) : slotP n s k = exitI := by
  unfold slotP; rw [if_neg (by omega), if_pos h]
theorem slotP_mov {n s i k : Nat} (h : k + 1 < s) : slotP n s (n + i * s + k) = movI := by
  unfold slotP
  rw [if_neg (by omega), if_neg (by omega), Nat.add_assoc, Nat.add_sub_cancel_left, mod_in (by omega), if_neg (by omega)]
theorem slotP_last {n s i k : Nat} (h : k + 1 = s) : slotP n s (n + i * s + k) = exitI := by
  unfold slotP
  rw [if_neg (by omega), if_neg (by omega), Nat.add_assoc, Nat.add_sub_cancel_left, mod_in (by omega), if_pos h]
theorem slotP_kind (n s k : Nat) : (k + 1 < n ∧ slotP n s k = callTo ((n : Int) - 1 - k + (k * s : Nat))) ∨ (n ≤ k + 1 ∧ (slotP n s k = exitI ∨ slotP n s k = movI)) := by
  by_cases h : k + 1 < n
  · exact .inl ⟨h, slotP_call h⟩
  · refine .inr ⟨by omega, ?_⟩
    unfold slotP
    rw [if_neg h]
    split
    · exact .inl rfl
    · split
      · exact .inl rfl
      · exact .inr rfl
theorem rowP_ops (n s m : Nat) : ∀ k, k < (rowP n s m).length → (opA (rowP n s m) k == BitVec.ofInt 8 24) = false := fun k hk => by
  rw [rowP_len] at hk
  change ((slotA (rowP n s m) k).1 == BitVec.ofInt 8 24) = false
  rw [rowP_get hk]
  rcases slotP_kind n s k with ⟨_, e⟩ | ⟨_, e | e⟩ <;> rw [e] <;> rfl
theorem rowP_names {n s m k : Nat} (h : k < m) : namesB (slotA (rowP n s m) k) = decide (k + 1 < n) := by
  rw [rowP_get h]
  rcases slotP_kind n s k with ⟨g, e⟩ | ⟨g, e | e⟩
  · rw [e, decide_eq_true g]; rfl
  · rw [e, decide_eq_false (by omega)]; rfl
  · rw [e, decide_eq_false (by omega)]; rfl
theorem rowP_call {n s m k : Nat} (h : k < m) (hk : k + 1 < n) (hn : n ≤ 80) (hs : s ≤ 10) : callI (rowP n s m) k = ((n + k * s : Nat) : Int) := by
  have hm : k * s ≤ 80 * 10 := Nat.mul_le_mul (by omega) hs
  unfold callI
  rw [show ((k : Int)).toNat = k from rfl, rowP_get h, slotP_call hk]
  unfold goI
  dsimp only
  rw [wrap64 (n := (n : Int) - 1 - k + (k * s : Nat)) (by omega) (by omega), wrap64 (n := (k : Int) + 1) (by omega) (by omega), wrap64 (by omega) (by omega)]
  omega
/-- Rising rows of the same numbers are the same. -/
theorem rise_ext : ∀ {a b : List Nat}, a.Pairwise (· < ·) → b.Pairwise (· < ·) → (∀ x, x ∈ a ↔ x ∈ b) → a = b
  | [], [], _, _, _ => rfl
  | [], y :: b, _, _, h => absurd ((h y).2 (List.mem_cons_self ..)) (by simp)
  | x :: a, [], _, _, h => absurd ((h x).1 (List.mem_cons_self ..)) (by simp)
  | x :: a, y :: b, ha, hb, h => by
    rw [List.pairwise_cons] at ha hb
    have e : x = y := by
      rcases List.mem_cons.1 ((h x).1 (List.mem_cons_self ..)) with e | e
      · exact e
      · rcases List.mem_cons.1 ((h y).2 (List.mem_cons_self ..)) with f | f
        · exact f.symm
        · have := hb.1 x e; have := ha.1 y f; omega
    subst e
    refine congrArg (x :: ·) (rise_ext ha.2 hb.2 fun z => ⟨fun hz => ?_, fun hz => ?_⟩)
    · rcases List.mem_cons.1 ((h z).1 (List.mem_cons_of_mem _ hz)) with e | e
      · have := ha.1 z hz; omega
      · exact e
    · rcases List.mem_cons.1 ((h z).2 (List.mem_cons_of_mem _ hz)) with e | e
      · have := hb.1 z hz; omega
      · exact e
def endP (n s : Nat) : Nat := n + (n - 1) * s
def fromP (n s j : Nat) : Nat := if j = 0 then 0 else n + (j - 1) * s
theorem fromP_rise {n s i j : Nat} (hn : 1 ≤ n) (hs : 1 ≤ s) (h : i < j) : fromP n s i < fromP n s j := by
  unfold fromP
  rw [if_neg (show ¬ j = 0 by omega)]
  split
  · omega
  · have : (i - 1 + 1) * s ≤ (j - 1) * s := Nat.mul_le_mul_right s (by omega)
    rw [Nat.succ_mul] at this
    omega
theorem fromP_end {n s : Nat} (hn : 1 ≤ n) : fromP n s n = endP n s := if_neg (by omega)
theorem froms_rowP {n s : Nat} (hn : 1 ≤ n) (hs : 1 ≤ s) (hn2 : n ≤ 80) (hs2 : s ≤ 10) : froms (rowP n s (endP n s)) (secs (rowP n s (endP n s))) = (List.range n).map (fromP n s) := by
  refine rise_ext (froms_rise _ _) ?_ fun x => ?_
  · rw [List.pairwise_map]
    exact List.Pairwise.imp (fun h => fromP_rise hn hs h) List.pairwise_lt_range
  · rw [froms_mem, rowP_len, List.mem_map]
    have hfrom : ∀ j, j + 1 < n → n + j * s < endP n s := fun j hj => by
      have : (j + 1) * s ≤ (n - 1) * s := Nat.mul_le_mul_right s (by omega)
      rw [Nat.succ_mul] at this
      unfold endP; omega
    have hle : n ≤ endP n s := Nat.le_add_right _ _
    constructor
    · rintro ⟨h1, h2⟩
      unfold isFrom at h2
      rw [Bool.or_eq_true, List.any_eq_true] at h2
      rcases h2 with h2 | ⟨j, hj, h2⟩
      · exact ⟨0, by simp; omega, by simp at h2; rw [h2]; rfl⟩
      · rw [List.mem_range, rowP_len] at hj
        rw [Bool.and_eq_true, Bool.and_eq_true, rowP_names hj, decide_eq_true_eq, beq_iff_eq] at h2
        obtain ⟨⟨g1, _⟩, g2⟩ := h2
        rw [rowP_call hj g1 hn2 hs2] at g2
        refine ⟨j + 1, by simp; omega, ?_⟩
        unfold fromP
        rw [if_neg (by omega), Nat.add_sub_cancel]
        exact Int.ofNat.inj g2
    · rintro ⟨j, hj, rfl⟩
      rw [List.mem_range] at hj
      cases j with
      | zero => exact ⟨by change 0 < _; omega, rfl⟩
      | succ j =>
        have e : fromP n s (j + 1) = n + j * s := by unfold fromP; rw [if_neg (by omega), Nat.add_sub_cancel]
        have hj2 : j < endP n s := by omega
        rw [e]
        refine ⟨hfrom j hj, ?_⟩
        unfold isFrom
        rw [Bool.or_eq_true, List.any_eq_true]
        refine .inr ⟨j, by rw [List.mem_range, rowP_len]; exact hj2, ?_⟩
        rw [rowP_names hj2, decide_eq_true hj, rowP_call hj2 hj hn2 hs2, no_sec (rowP_ops n s _)]
        simp
theorem fnA_rowP {n s j : Nat} (hn : 1 ≤ n) (hs : 1 ≤ s) (hn2 : n ≤ 80) (hs2 : s ≤ 10) (hj : j ≤ n) : fnA (froms (rowP n s (endP n s)) (secs (rowP n s (endP n s)))) (rowP n s (endP n s)).length j = fromP n s j := by
  rw [froms_rowP hn hs hn2 hs2, rowP_len]
  by_cases h : j < n
  · simp [fnA, List.getD_eq_getElem?_getD, List.getElem?_map, List.getElem?_range h]
  · rw [fnA_end (by simpa using h), show j = n by omega, fromP_end hn]
theorem rowP_last {n s j : Nat} (hn : 1 ≤ n) (hs : 1 ≤ s) (hj : j < n) : fromP n s (j + 1) - 1 < endP n s ∧ slotP n s (fromP n s (j + 1) - 1) = exitI ∧ 1 ≤ fromP n s (j + 1) := by
  have e : fromP n s (j + 1) = n + j * s := by unfold fromP; rw [if_neg (by omega), Nat.add_sub_cancel]
  have : j * s ≤ (n - 1) * s := Nat.mul_le_mul_right s (by omega)
  rw [e]
  refine ⟨by unfold endP; omega, ?_, by omega⟩
  cases j with
  | zero => exact slotP_exit (by omega)
  | succ i =>
    rw [Nat.succ_mul]
    have := slotP_last (n := n) (s := s) (i := i) (k := s - 1) (by omega)
    rw [show n + (i * s + s) - 1 = n + i * s + (s - 1) by omega]
    exact this
theorem endP_le {n s : Nat} (hn2 : n ≤ 80) (hs2 : s ≤ 10) : endP n s ≤ 880 := by
  have : (n - 1) * s ≤ 80 * 10 := Nat.mul_le_mul (by omega) hs2
  unfold endP; omega
end Go.In
