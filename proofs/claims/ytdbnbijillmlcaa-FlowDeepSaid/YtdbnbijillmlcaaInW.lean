/-
  Instructions: rows of some.
-/
import Derived.Test.YtdbnbijillmlcaaInV
namespace Go.In
open Go Go.Sy Go.Sz
set_option linter.unusedVariables false
set_option linter.unusedSimpArgs false

@[reducible] def movI : Ins := (BitVec.ofInt 8 183, BitVec.ofInt 8 0, BitVec.ofInt 8 0, 0, 0, ())
@[reducible] def exitI : Ins := (BitVec.ofInt 8 149, BitVec.ofInt 8 0, BitVec.ofInt 8 0, 0, 0, ())
def movs (n : Nat) : Slots := List.replicate n movI
theorem movs_len (n : Nat) : (movs n).length = n := by simp [movs]
theorem movs_up (n : Nat) : movs (n + 1) = movs n ++ [movI] := by simp [movs, List.replicate_succ']
theorem movs_get {n k : Nat} (h : k < n) : (movs n).getD k noIns = movI := by
  simp [movs, List.getD_eq_getElem?_getD, List.getElem?_replicate, h]
theorem app_left {α : Type} (a b : List α) (k : Nat) (d : α) (h : k < a.length) : (a ++ b).getD k d = a.getD k d := by
  rw [List.getD_eq_getElem?_getD, List.getElem?_append_left h, List.getD_eq_getElem?_getD]
theorem app_right {α : Type} (a b : List α) (k : Nat) (d : α) (h : a.length ≤ k) : (a ++ b).getD k d = b.getD (k - a.length) d := by
  rw [List.getD_eq_getElem?_getD, List.getElem?_append_right h, List.getD_eq_getElem?_getD]
/-- n operations and an Exit; one of them is a jump -/
def rowJ (n k : Nat) (o : BitVec 8) (f : Int) : Slots := (movs n ++ [exitI]).set k (o, BitVec.ofInt 8 0, BitVec.ofInt 8 0, f, 0, ())
theorem rowJ_len (n k : Nat) (o : BitVec 8) (f : Int) : (rowJ n k o f).length = n + 1 := by simp [rowJ, movs_len]
theorem rowJ_at {n k : Nat} (o : BitVec 8) (f : Int) (h : k < n) : slotA (rowJ n k o f) k = (o, BitVec.ofInt 8 0, BitVec.ofInt 8 0, f, 0, ()) := by
  unfold rowJ
  rw [slotA, getD_set _ _ _ _ _ (by simp [movs_len]; omega), if_pos rfl]
theorem rowJ_get {n k j : Nat} (o : BitVec 8) (f : Int) (h : k < n) (hj : j ≤ n) (e : j ≠ k) : slotA (rowJ n k o f) j = if j = n then exitI else movI := by
  unfold rowJ
  rw [slotA, getD_set _ _ _ _ _ (by simp [movs_len]; omega), if_neg e]
  by_cases g : j = n
  · rw [if_pos g, app_right _ _ _ _ (by rw [movs_len]; omega), movs_len, g, Nat.sub_self]; rfl
  · rw [if_neg g, app_left _ _ _ _ (by rw [movs_len]; omega), movs_get (by omega)]
theorem rowJ_set {n k : Nat} (o o' : BitVec 8) (f : Int) (h : k < n) : (rowJ n k o f).set k (o', ((rowJ n k o f).getD k noIns).2) = rowJ n k o' f := by
  have := rowJ_at o f h
  rw [slotA] at this
  rw [this]
  unfold rowJ
  rw [List.set_set]
/-- Where no wide load is, there is no second slot. -/
theorem no_wide {l : Slots} (h : ∀ k, k < l.length → (opA l k == BitVec.ofInt 8 24) = false) : ∀ k, k ≤ l.length → secB l k = false
  | 0, _ => rfl
  | k + 1, hk => by
    unfold secB
    rw [h k (by omega)]; rfl
theorem secA_out {b : Bools} {k : Int} (h : (b.length : Int) ≤ k) : secA b k = false := by
  unfold secA
  rw [List.getD_eq_getElem?_getD, List.getElem?_eq_none (by omega)]; rfl
theorem secA_in {l : Slots} {k : Int} (h : k.toNat < l.length) : secA (secs l) k = secB l k.toNat := secs_get h
theorem secA_nat {l : Slots} {k : Nat} (h : k < l.length) : secA (secs l) (k : Int) = secB l k := secA_in h
theorem no_sec {l : Slots} (h : ∀ k, k < l.length → (opA l k == BitVec.ofInt 8 24) = false) (k : Int) : secA (secs l) k = false := by
  by_cases g : k.toNat < l.length
  · rw [secA_in g]; exact no_wide h _ (by omega)
  · unfold secA
    rw [List.getD_eq_getElem?_getD, List.getElem?_eq_none (by rw [secs_len]; omega)]; rfl
theorem froms_one {l : Slots} {b : Bools} (h0 : 0 < l.length) (h : ∀ k, k < l.length → secA b k = false → namesB (slotA l k) = false) : froms l b = [0] := by
  have e : ∀ k, k ∈ List.range l.length → isFrom l b k = (k == 0) := fun k _ => by
    unfold isFrom
    rw [List.any_eq_false.2, Bool.or_false]
    intro j hj
    have hj' : j < l.length := by simpa using hj
    cases c : secA b j with
    | true => simp
    | false => rw [h j hj' c]; simp
  unfold froms
  rw [List.filter_congr e]
  obtain ⟨m, hm⟩ : ∃ m, l.length = m + 1 := ⟨l.length - 1, by omega⟩
  rw [hm, List.range_succ_eq_map, List.filter_cons_of_pos (by rfl)]
  congr 1
  rw [List.filter_eq_nil_iff]
  intro x hx
  obtain ⟨y, _, rfl⟩ := List.mem_map.1 hx
  simp
theorem subsL_one {l : Slots} {b : Bools} (h : froms l b = [0]) : subsL l b = [(0, (l.length : Int), ())] := by
  unfold subsL
  rw [h]; rfl
theorem leads_one (l : Slots) (b : Bools) : (match scan (fun j => (leadAt l b (partOf [(0, (l.length : Int), ())] j)).isSome) ([(0, (l.length : Int), ())] : Parts).length 0 with | none => none | some j => leadAt l b (partOf [(0, (l.length : Int), ())] j)) = scan (leadBad l b (0, (l.length : Int), ())) l.length 0 := by
  have e : leadAt l b (0, (l.length : Int), ()) = scan (leadBad l b (0, (l.length : Int), ())) l.length 0 := by
    unfold leadAt
    congr 1
  rw [← e]
  change (match scan (fun j => (leadAt l b (partOf [(0, (l.length : Int), ())] j)).isSome) 1 0 with | none => none | some j => leadAt l b (partOf [(0, (l.length : Int), ())] j)) = _
  cases c : leadAt l b (0, (l.length : Int), ()) with
  | none => rw [scan_none fun j _ hj => by have : j = 0 := by omega
                                           subst this; exact congrArg Option.isSome c]
  | some k =>
    rw [scan_some (j := 0) (Nat.le_refl _) (by omega) (congrArg Option.isSome c) fun i _ hi => by omega]
    exact c
/-- operations, a wide load, an Exit -/
def rowW (n : Nat) (x y : Int) : Slots := movs n ++ [(BitVec.ofInt 8 24, BitVec.ofInt 8 3, BitVec.ofInt 8 0, 0, x, ()), (BitVec.ofInt 8 0, BitVec.ofInt 8 0, BitVec.ofInt 8 0, 0, y, ()), exitI]
theorem rowW_len (n : Nat) (x y : Int) : (rowW n x y).length = n + 3 := by simp [rowW, movs_len]
theorem rowW_low {n k : Nat} (x y : Int) (h : k < n) : slotA (rowW n x y) k = movI := by
  unfold rowW
  rw [slotA, app_left _ _ _ _ (by rw [movs_len]; exact h), movs_get h]
theorem rowW_high (n j : Nat) (x y : Int) : slotA (rowW n x y) (n + j) = ([(BitVec.ofInt 8 24, BitVec.ofInt 8 3, BitVec.ofInt 8 0, 0, x, ()), (BitVec.ofInt 8 0, BitVec.ofInt 8 0, BitVec.ofInt 8 0, 0, y, ()), exitI] : Slots).getD j noIns := by
  unfold rowW
  rw [slotA, app_right _ _ _ _ (by rw [movs_len]; omega), movs_len, Nat.add_sub_cancel_left]
/-- its second slot, whatever the operations ahead, as long as none is wide -/
theorem sec_after {l : Slots} {n : Nat} (h : ∀ k, k < n → (opA l k == BitVec.ofInt 8 24) = false) (h1 : (opA l n == BitVec.ofInt 8 24) = true) (h2 : (opA l (n + 1) == BitVec.ofInt 8 24) = false) : (∀ k, k ≤ n → secB l k = false) ∧ secB l (n + 1) = true ∧ secB l (n + 2) = false := by
  have h0 : ∀ k, k ≤ n → secB l k = false := fun k hk => by
    cases k with
    | zero => rfl
    | succ k => unfold secB; rw [h k (by omega)]; rfl
  have e1 : secB l (n + 1) = true := by unfold secB; rw [h1, h0 n (Nat.le_refl _)]; rfl
  refine ⟨h0, e1, ?_⟩
  show (opA l (n + 1) == BitVec.ofInt 8 24 && !secB l (n + 1)) = false
  rw [h2]; rfl
theorem halves (w : BitVec 64) : (BitVec.ofInt 32 ((w % BitVec.ofInt 64 4294967296).setWidth 32).toInt).setWidth 64 ||| (BitVec.ofInt 32 ((w >>> 32).setWidth 32).toInt).setWidth 64 <<< 32 = w := by
  rw [BitVec.ofInt_toInt, BitVec.ofInt_toInt]
  apply BitVec.eq_of_toNat_eq
  have hw := w.isLt
  have hm : w.toNat % 4294967296 < 2 ^ 32 := Nat.mod_lt _ (by decide)
  have e1 : (((w % BitVec.ofInt 64 4294967296).setWidth 32).setWidth 64).toNat = w.toNat % 4294967296 := by
    rw [BitVec.toNat_setWidth, BitVec.toNat_setWidth, BitVec.toNat_umod, show (BitVec.ofInt 64 4294967296).toNat = 4294967296 from rfl]
    omega
  have e2 : ((((w >>> 32).setWidth 32).setWidth 64) <<< 32).toNat = 2 ^ 32 * (w.toNat / 4294967296) := by
    rw [BitVec.toNat_shiftLeft, BitVec.toNat_setWidth, BitVec.toNat_setWidth, BitVec.toNat_ushiftRight, Nat.shiftRight_eq_div_pow, Nat.shiftLeft_eq]
    omega
  rw [BitVec.toNat_or, e1, e2, Nat.or_comm, ← Nat.two_pow_add_eq_or_of_lt hm]
  omega
end Go.In
