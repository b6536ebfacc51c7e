/-
  Texts of numbers: their digits, and how they are read again.
-/
import Derived.Test.YtfbldjaepenfpaaGreatDoorSzAJ
noncomputable section
namespace Go.Fa
open Go Go.RowKit Go.Sy Go.Sz
set_option linter.unusedVariables false
set_option linter.unusedSimpArgs false
/-! ### Bytes as lists -/
def B (l : List UInt8) : ByteArray := ⟨l.toArray⟩
theorem B_size (l : List UInt8) : (B l).size = l.length := by show l.toArray.size = _; simp
theorem B_inj {a b : List UInt8} (h : B a = B b) : a = b := by
  have h1 : (B a).data.toList = (B b).data.toList := by rw [h]
  simpa [B] using h1
theorem B_list (x : ByteArray) : B x.data.toList = x := by
  obtain ⟨⟨l⟩⟩ := x; rfl
theorem B_append (a b : List UInt8) : B a ++ B b = B (a ++ b) := by
  apply ByteArray.ext
  rw [ByteArray.data_append]
  simp [B]
theorem B_extract (l : List UInt8) (i j : Nat) : (B l).extract i j = B ((l.drop i).take (j - i)) := by
  apply ByteArray.ext
  rw [ByteArray.data_extract]
  simp [B, List.take_drop, List.extract_eq_take_drop]
/-! ### Digits -/
def ch (n : Nat) : UInt8 := UInt8.ofNat (48 + n)
def dg (n : Nat) : List UInt8 := if n < 10 then [ch n] else dg (n / 10) ++ [ch (n % 10)]
termination_by n
decreasing_by omega
theorem dg_lt {n : Nat} (h : n < 10) : dg n = [ch n] := by rw [dg, if_pos h]
theorem dg_ge {n : Nat} (h : ¬ n < 10) : dg n = dg (n / 10) ++ [ch (n % 10)] := by rw [dg, if_neg h]
theorem dg_all : ∀ (n : Nat), ∀ c ∈ dg n, 48 ≤ c.toNat ∧ c.toNat ≤ 57
  | n, c, hc => by
    have one : ∀ m, m < 10 → 48 ≤ (ch m).toNat ∧ (ch m).toNat ≤ 57 := fun m hm => by
      have : (ch m).toNat = 48 + m := by show (UInt8.ofNat (48 + m)).toNat = _; simp; omega
      omega
    by_cases h : n < 10
    · rw [dg_lt h, List.mem_singleton] at hc; subst hc; exact one n h
    · rw [dg_ge h, List.mem_append, List.mem_singleton] at hc
      rcases hc with hc | rfl
      · exact dg_all (n / 10) c hc
      · exact one _ (Nat.mod_lt _ (by omega))
termination_by n => n
decreasing_by omega
theorem dg_ne (n : Nat) : dg n ≠ [] := by
  by_cases h : n < 10
  · rw [dg_lt h]; simp
  · rw [dg_ge h]; simp
theorem dg_len : ∀ (k n : Nat), n < 10 ^ (k + 1) → (dg n).length ≤ k + 1
  | 0, n, h => by rw [dg_lt (by simpa using h)]; simp
  | k + 1, n, h => by
    by_cases hn : n < 10
    · rw [dg_lt hn]; simp
    · rw [dg_ge hn, List.length_append]
      have := dg_len k (n / 10) (by rw [Nat.div_lt_iff_lt_mul (by omega)]; rw [Nat.pow_succ] at h; exact h)
      simp only [List.length_cons, List.length_nil]; omega
theorem dg_head : ∀ (n : Nat), (dg n).head? = some 48 → n = 0
  | n, h => by
    by_cases hn : n < 10
    · rw [dg_lt hn] at h
      simp only [List.head?_cons, Option.some.injEq] at h
      have h2 : (ch n).toNat = 48 := by rw [h]; rfl
      have : (ch n).toNat = 48 + n := by show (UInt8.ofNat (48 + n)).toNat = _; simp; omega
      omega
    · rw [dg_ge hn] at h
      have hne := dg_ne (n / 10)
      cases hd : dg (n / 10) with
      | nil => exact absurd hd hne
      | cons a l =>
        rw [hd] at h
        have := dg_head (n / 10) (by rw [hd]; exact h)
        omega
termination_by n => n
decreasing_by omega
theorem ch_nat {m : Nat} (h : m < 10) : (ch m).toNat = 48 + m := by show (UInt8.ofNat (48 + m)).toNat = _; simp; omega
def rd : List UInt8 → Nat → Nat
  | [], a => a
  | c :: l, a => rd l (10 * a + (c.toNat - 48))
theorem rd_append : ∀ (l m : List UInt8) (a : Nat), rd (l ++ m) a = rd m (rd l a)
  | [], _, _ => rfl
  | _ :: l, m, _ => rd_append l m _
theorem rd_dg : ∀ (n : Nat), rd (dg n) 0 = n
  | n => by
    by_cases hn : n < 10
    · rw [dg_lt hn]; simp only [rd, ch_nat hn]; omega
    · rw [dg_ge hn, rd_append, rd_dg (n / 10)]
      simp only [rd, ch_nat (Nat.mod_lt n (by omega : 10 > 0))]
      omega
termination_by n => n
decreasing_by omega
theorem rd_le : ∀ (l : List UInt8) (a : Nat), a ≤ rd l a
  | [], _ => Nat.le_refl _
  | c :: l, a => Nat.le_trans (by omega) (rd_le l (10 * a + (c.toNat - 48)))
def nb (k : Int) : List UInt8 := if k < 0 then 45 :: dg (-k).toNat else dg k.toNat
end Go.Fa
namespace Go.Fa
open Go Go.RowKit Go.Sy Go.Sz
set_option linter.unusedVariables false
set_option linter.unusedSimpArgs false
abbrev Ins := BitVec 8 × BitVec 8 × BitVec 8 × Int × Int × Unit
abbrev Slots := List Ins
theorem byteAt_B (l : List UInt8) (i : Nat) : byteAt (B l) i = (l.getD i 0).toBitVec := by
  have e : (B l)[i]? = l[i]? := by
    by_cases h : i < l.length
    · have h2 : i < (B l).size := by rw [B_size]; exact h
      rw [List.getElem?_eq_getElem h, getElem?_pos (B l) i h2]
      rfl
    · have h2 : ¬ i < (B l).size := by rw [B_size]; exact h
      rw [List.getElem?_eq_none (by omega), getElem?_neg (B l) i h2]
  unfold byteAt
  rw [e, List.getD_eq_getElem?_getD]
  cases l[i]? <;> rfl
/-! ### Lines -/
def pv (ln : ByteArray → Option Slots) : Nat → ByteArray → Nat → Nat → Option Slots
  | 0, _, _, _ => some []
  | f + 1, s, b, i => bif decide (i < s.size) && (byteAt s i != BitVec.ofInt 8 10) then pv ln f s b (i + 1) else
    match ln (s.extract b i) with
    | none => none
    | some x => (pv ln f s (i + 1) (i + 1)).map (x ++ ·)
def join : List (List UInt8) → List UInt8
  | [] => []
  | [p] => p
  | p :: q :: l => p ++ 10 :: join (q :: l)
def lnAll (ln : ByteArray → Option Slots) : List (List UInt8) → Option Slots
  | [] => some []
  | p :: l => match ln (B p) with
    | none => none
    | some x => (lnAll ln l).map (x ++ ·)
theorem pv_scan (ln : ByteArray → Option Slots) (T : List UInt8) (b : Nat) : ∀ n i f, (∀ j, i ≤ j → j < i + n → j < T.length ∧ T.getD j 0 ≠ 10) → pv ln (f + n) (B T) b i = pv ln f (B T) b (i + n)
  | 0, i, f, _ => rfl
  | n + 1, i, f, h => by
    obtain ⟨h1, h2⟩ := h i (Nat.le_refl _) (by omega)
    have e : (decide (i < (B T).size) && (byteAt (B T) i != BitVec.ofInt 8 10)) = true := by
      rw [B_size, decide_eq_true h1, byteAt_B, Bool.true_and, bne_iff_ne]
      intro hc
      exact h2 (UInt8.toBitVec_inj.1 (hc.trans (by rfl)))
    show (bif _ then pv ln (f + n) (B T) b (i + 1) else _) = _
    rw [e, cond_true, pv_scan ln T b n (i + 1) f fun j hj hj2 => h j (by omega) (by omega)]
    congr 1; omega
theorem getD_mid (pre p rest : List UInt8) (j : Nat) (h : pre.length ≤ j) (h2 : j < pre.length + p.length) : (pre ++ p ++ rest).getD j 0 ∈ p := by
  have : (pre ++ p ++ rest)[j]? = p[j - pre.length]? := by
    rw [List.append_assoc, List.getElem?_append_right h, List.getElem?_append_left (by omega)]
  rw [List.getD_eq_getElem?_getD, this, List.getElem?_eq_getElem (by omega)]
  simp
theorem pv_pieces (ln : ByteArray → Option Slots) : ∀ (ps : List (List UInt8)) (pre : List UInt8), ps ≠ [] → (∀ p ∈ ps, (10 : UInt8) ∉ p) →
    pv ln ((join ps).length + 1) (B (pre ++ join ps)) pre.length pre.length = lnAll ln ps
  | [], _, h, _ => absurd rfl h
  | [p], pre, _, h => by
    have h1 : (10 : UInt8) ∉ p := h p (by simp)
    simp only [join]
    rw [Nat.add_comm p.length 1, pv_scan ln (pre ++ p) pre.length p.length pre.length 1 (fun j hj hj2 => ⟨by rw [List.length_append]; exact hj2, fun hc => h1 (by rw [← hc]; have := getD_mid pre p [] j hj hj2; simpa using this)⟩)]
    have e : (decide (pre.length + p.length < (B (pre ++ p)).size) && (byteAt (B (pre ++ p)) (pre.length + p.length) != BitVec.ofInt 8 10)) = false := by
      rw [B_size, List.length_append, decide_eq_false (by omega)]; rfl
    show (bif _ then _ else _) = _
    rw [e, cond_false, B_extract]
    rw [show List.take (pre.length + p.length - pre.length) (List.drop pre.length (pre ++ p)) = p by simp]
    rfl
  | p :: q :: l, pre, _, h => by
    have h1 : (10 : UInt8) ∉ p := h p (by simp)
    have ih := pv_pieces ln (q :: l) (pre ++ p ++ [10]) (by simp) (fun x hx => h x (by simp only [List.mem_cons] at hx ⊢; exact .inr hx))
    simp only [join]
    have hT : pre ++ (p ++ 10 :: join (q :: l)) = pre ++ p ++ 10 :: join (q :: l) := by simp
    rw [hT]
    have hl : (p ++ 10 :: join (q :: l)).length + 1 = ((join (q :: l)).length + 1 + 1) + p.length := by simp; omega
    rw [hl, pv_scan ln _ pre.length p.length pre.length _ (fun j hj hj2 => ⟨by simp; omega, fun hc => h1 (by rw [← hc]; exact getD_mid pre p _ j hj hj2)⟩)]
    have hb : (pre ++ p ++ 10 :: join (q :: l)).getD (pre.length + p.length) 0 = 10 := by
      rw [List.getD_eq_getElem?_getD, List.getElem?_append_right (by simp)]
      simp
    have e : (decide (pre.length + p.length < (B (pre ++ p ++ 10 :: join (q :: l))).size) && (byteAt (B (pre ++ p ++ 10 :: join (q :: l))) (pre.length + p.length) != BitVec.ofInt 8 10)) = false := by
      rw [byteAt_B, hb]
      simp
    show (bif _ then _ else _) = _
    rw [e, cond_false, B_extract]
    rw [show List.take (pre.length + p.length - pre.length) (List.drop pre.length (pre ++ p ++ 10 :: join (q :: l))) = p by simp]
    have hT2 : pre ++ p ++ 10 :: join (q :: l) = pre ++ p ++ [10] ++ join (q :: l) := by simp
    have hn : pre.length + p.length + 1 = (pre ++ p ++ [10]).length := by simp only [List.length_append, List.length_cons, List.length_nil]
    rw [hT2, hn, ih]
    rfl
/-! ### A line's blanks -/
end Go.Fa
namespace Go.Fa
open Go Go.RowKit Go.Sy Go.Sz
set_option linter.unusedVariables false
set_option linter.unusedSimpArgs false
/-! ### Words -/
def joinC (c : UInt8) : List (List UInt8) → List UInt8
  | [] => []
  | [p] => p
  | p :: q :: l => p ++ c :: joinC c (q :: l)
def wv : Nat → ByteArray → Nat → Nat → List (ByteArray × Unit)
  | 0, _, _, _ => []
  | f + 1, s, b, i => bif decide (i = s.size) || (byteAt s i == BitVec.ofInt 8 32) then (s.extract b i, ()) :: wv f s (i + 1) (i + 1) else wv f s b (i + 1)
theorem wv_scan (T : List UInt8) (b : Nat) : ∀ n i f, (∀ j, i ≤ j → j < i + n → j < T.length ∧ T.getD j 0 ≠ 32) → wv (f + n) (B T) b i = wv f (B T) b (i + n)
  | 0, i, f, _ => rfl
  | n + 1, i, f, h => by
    obtain ⟨h1, h2⟩ := h i (Nat.le_refl _) (by omega)
    have e : (decide (i = (B T).size) || (byteAt (B T) i == BitVec.ofInt 8 32)) = false := by
      rw [B_size, decide_eq_false (by omega), byteAt_B, Bool.false_or, beq_eq_false_iff_ne]
      intro hc
      exact h2 (UInt8.toBitVec_inj.1 (hc.trans (by rfl)))
    show (bif _ then _ else wv (f + n) (B T) b (i + 1)) = _
    rw [e, cond_false, wv_scan T b n (i + 1) f fun j hj hj2 => h j (by omega) (by omega)]
    congr 1; omega
theorem wv_pieces : ∀ (ps : List (List UInt8)) (pre : List UInt8), ps ≠ [] → (∀ p ∈ ps, (32 : UInt8) ∉ p) →
    wv ((joinC 32 ps).length + 1) (B (pre ++ joinC 32 ps)) pre.length pre.length = ps.map fun p => (B p, ())
  | [], _, h, _ => absurd rfl h
  | [p], pre, _, h => by
    have h1 : (32 : UInt8) ∉ p := h p (by simp)
    simp only [joinC]
    rw [Nat.add_comm p.length 1, wv_scan (pre ++ p) pre.length p.length pre.length 1 (fun j hj hj2 => ⟨by rw [List.length_append]; exact hj2, fun hc => h1 (by rw [← hc]; have := getD_mid pre p [] j hj hj2; simpa using this)⟩)]
    have e : (decide (pre.length + p.length = (B (pre ++ p)).size) || (byteAt (B (pre ++ p)) (pre.length + p.length) == BitVec.ofInt 8 32)) = true := by
      rw [B_size, List.length_append, decide_eq_true rfl]; rfl
    show (bif _ then _ else _) = _
    rw [e, cond_true, B_extract]
    rw [show List.take (pre.length + p.length - pre.length) (List.drop pre.length (pre ++ p)) = p by simp]
    rfl
  | p :: q :: l, pre, _, h => by
    have h1 : (32 : UInt8) ∉ p := h p (by simp)
    have ih := wv_pieces (q :: l) (pre ++ p ++ [32]) (by simp) (fun x hx => h x (by simp only [List.mem_cons] at hx ⊢; exact .inr hx))
    simp only [joinC]
    have hT : pre ++ (p ++ 32 :: joinC 32 (q :: l)) = pre ++ p ++ 32 :: joinC 32 (q :: l) := by simp
    rw [hT]
    have hl : (p ++ 32 :: joinC 32 (q :: l)).length + 1 = ((joinC 32 (q :: l)).length + 1 + 1) + p.length := by simp; omega
    rw [hl, wv_scan _ pre.length p.length pre.length _ (fun j hj hj2 => ⟨by simp; omega, fun hc => h1 (by rw [← hc]; exact getD_mid pre p _ j hj hj2)⟩)]
    have hb : (pre ++ p ++ 32 :: joinC 32 (q :: l)).getD (pre.length + p.length) 0 = 32 := by
      rw [List.getD_eq_getElem?_getD, List.getElem?_append_right (by simp)]
      simp
    have e : (decide (pre.length + p.length = (B (pre ++ p ++ 32 :: joinC 32 (q :: l))).size) || (byteAt (B (pre ++ p ++ 32 :: joinC 32 (q :: l))) (pre.length + p.length) == BitVec.ofInt 8 32)) = true := by
      rw [byteAt_B, hb]
      simp
    show (bif _ then _ else _) = _
    rw [e, cond_true, B_extract]
    rw [show List.take (pre.length + p.length - pre.length) (List.drop pre.length (pre ++ p ++ 32 :: joinC 32 (q :: l))) = p by simp]
    have hT2 : pre ++ p ++ 32 :: joinC 32 (q :: l) = pre ++ p ++ [32] ++ joinC 32 (q :: l) := by simp
    have hn : pre.length + p.length + 1 = (pre ++ p ++ [32]).length := by simp only [List.length_append, List.length_cons, List.length_nil]
    rw [hT2, hn, ih]
    rfl
end Go.Fa
namespace Go.Fa
open Go Go.RowKit Go.Sy Go.Sz
set_option linter.unusedVariables false
set_option linter.unusedSimpArgs false
/-! ### Digits are read -/
def dv (b : BitVec 8) : BitVec 64 := BitVec.setWidth 64 b - BitVec.ofInt 64 48
def plBad (b : BitVec 8) (n : BitVec 64) : Bool := BitVec.ult b (BitVec.ofInt 8 48) || (BitVec.ult (BitVec.ofInt 8 57) b || BitVec.ult ((BitVec.ofInt 64 18446744073709551615 - dv b) / BitVec.ofInt 64 10) n)
def plGo : Nat → ByteArray → Nat → BitVec 64 → BitVec 64 × Bool
  | 0, _, _, n => (n, true)
  | f + 1, s, i, n => bif plBad (byteAt s i) n then (n, false) else plGo f s (i + 1) (BitVec.ofInt 64 10 * n + dv (byteAt s i))
def plZ (x : BitVec 64 × Bool) : BitVec 64 × Bool := bif x.2 then x else (BitVec.ofInt 64 0, false)
def pl (s : ByteArray) : BitVec 64 × Bool :=
  bif decide (s.size = 0) || (decide (20 < s.size) || ((byteAt s 0 == BitVec.ofInt 8 48) && decide (1 < s.size))) then (BitVec.ofInt 64 0, false) else plZ (plGo s.size s 0 (BitVec.ofInt 64 0))
theorem dv_nat {b : BitVec 8} (h : 48 ≤ b.toNat) : (dv b).toNat = b.toNat - 48 := by
  have hb := b.isLt
  unfold dv
  rw [BitVec.toNat_sub, BitVec.toNat_setWidth]
  have : (BitVec.ofInt 64 48).toNat = 48 := by rfl
  rw [this]
  omega
theorem plGo_dg (pre : List UInt8) : ∀ (l : List UInt8) (done : List UInt8) (n : BitVec 64), (∀ c ∈ l, 48 ≤ c.toNat ∧ c.toNat ≤ 57) → rd l n.toNat < 2 ^ 64 →
    plGo l.length (B (done ++ l)) done.length n = (BitVec.ofNat 64 (rd l n.toNat), true)
  | [], done, n, _, h => by simp [plGo, rd]
  | c :: l, done, n, hd, h => by
    obtain ⟨h1, h2⟩ := hd c (by simp)
    have hb : byteAt (B (done ++ c :: l)) done.length = c.toBitVec := by
      rw [byteAt_B, List.getD_eq_getElem?_getD, List.getElem?_append_right (Nat.le_refl _)]
      simp
    have hc : c.toBitVec.toNat = c.toNat := rfl
    have hdv : (dv c.toBitVec).toNat = c.toNat - 48 := dv_nat (by rw [hc]; exact h1)
    have hr : 10 * n.toNat + (c.toNat - 48) < 2 ^ 64 := Nat.lt_of_le_of_lt (rd_le l _) h
    have hn : (BitVec.ofInt 64 10 * n + dv c.toBitVec).toNat = 10 * n.toNat + (c.toNat - 48) := by
      rw [BitVec.toNat_add, BitVec.toNat_mul, hdv]
      have : (BitVec.ofInt 64 10).toNat = 10 := by rfl
      rw [this]
      omega
    have hbad : plBad c.toBitVec n = false := by
      unfold plBad
      have e1 : BitVec.ult c.toBitVec (BitVec.ofInt 8 48) = false := by
        simp only [BitVec.ult]; rw [hc]; exact decide_eq_false (by have : (BitVec.ofInt 8 48).toNat = 48 := by rfl
                                                                   omega)
      have e2 : BitVec.ult (BitVec.ofInt 8 57) c.toBitVec = false := by
        simp only [BitVec.ult]; rw [hc]; exact decide_eq_false (by have : (BitVec.ofInt 8 57).toNat = 57 := by rfl
                                                                   omega)
      have e3 : BitVec.ult ((BitVec.ofInt 64 18446744073709551615 - dv c.toBitVec) / BitVec.ofInt 64 10) n = false := by
        simp only [BitVec.ult]
        refine decide_eq_false ?_
        rw [BitVec.toNat_udiv, BitVec.toNat_sub, hdv]
        have a1 : (BitVec.ofInt 64 18446744073709551615).toNat = 18446744073709551615 := by rfl
        have a2 : (BitVec.ofInt 64 10).toNat = 10 := by rfl
        rw [a1, a2]
        omega
      rw [e1, e2, e3]; rfl
    show plGo (l.length + 1) _ _ _ = _
    simp only [plGo]
    rw [hb, hbad, cond_false]
    have := plGo_dg pre l (done ++ [c]) (BitVec.ofInt 64 10 * n + dv c.toBitVec) (fun x hx => hd x (by simp [hx])) (by rw [hn]; exact h)
    simp only [List.append_assoc, List.cons_append, List.nil_append, List.length_append, List.length_cons, List.length_nil] at this
    rw [this, hn]
    rfl
theorem pl_dg {n : Nat} (h : n < 2 ^ 63) : pl (B (dg n)) = (BitVec.ofNat 64 n, true) := by
  have hlen : (dg n).length ≤ 19 := dg_len 18 n (by omega)
  have hne : (dg n).length ≠ 0 := by
    intro h0
    exact dg_ne n (List.length_eq_zero_iff.1 h0)
  unfold pl
  have e : (decide ((B (dg n)).size = 0) || (decide (20 < (B (dg n)).size) || ((byteAt (B (dg n)) 0 == BitVec.ofInt 8 48) && decide (1 < (B (dg n)).size)))) = false := by
    rw [B_size, decide_eq_false hne, decide_eq_false (by omega), Bool.false_or, Bool.false_or, byteAt_B]
    by_cases h1 : 1 < (dg n).length
    · rw [decide_eq_true h1, Bool.and_true, beq_eq_false_iff_ne]
      intro hc
      have h48 : (dg n).getD 0 0 = 48 := UInt8.toBitVec_inj.1 (hc.trans (by rfl))
      have : n = 0 := dg_head n (by
        cases hd : dg n with
        | nil => exact absurd hd (dg_ne n)
        | cons a l => rw [hd] at h48; simpa using h48)
      subst this
      rw [dg_lt (by omega)] at h1
      simp at h1
    · rw [decide_eq_false h1, Bool.and_false]
  rw [e, cond_false, B_size]
  have := plGo_dg [] (dg n) [] (BitVec.ofInt 64 0) (dg_all n) (by
    rw [show (BitVec.ofInt 64 0).toNat = 0 by rfl, rd_dg]; omega)
  rw [show (BitVec.ofInt 64 0).toNat = 0 by rfl, rd_dg] at this
  simp only [List.nil_append, List.length_nil] at this
  rw [this]; rfl
def rdI (s : ByteArray) : Int := match s.data.toList with
  | 45 :: l => -(rd l 0 : Int)
  | 43 :: l => rd l 0
  | l => rd l 0
theorem dg_cons (n : Nat) : ∃ c l, dg n = c :: l ∧ 48 ≤ c.toNat ∧ c.toNat ≤ 57 := by
  cases h : dg n with
  | nil => exact absurd h (dg_ne n)
  | cons c l => exact ⟨c, l, rfl, dg_all n c (by rw [h]; simp)⟩
theorem rdI_dg (n : Nat) : rdI (B (dg n)) = n := by
  obtain ⟨c, l, h, h1, h2⟩ := dg_cons n
  have e : rdI (B (dg n)) = rd (dg n) 0 := by
    unfold rdI
    show (match (dg n).toArray.toList with | 45 :: l => -(rd l 0 : Int) | 43 :: l => rd l 0 | l => rd l 0) = _
    rw [List.toList_toArray, h]
    split
    · rename_i l' e; injection e with e _; subst e; exact absurd h1 (by decide)
    · rename_i l' e; injection e with e _; subst e; exact absurd h1 (by decide)
    · rfl
  rw [e, rd_dg]
theorem rdI_nb (k : Int) : rdI (B (nb k)) = k := by
  unfold nb
  split
  · show (-(rd (dg (-k).toNat) 0 : Int)) = k
    rw [rd_dg]; omega
  · rw [rdI_dg]; omega
end Go.Fa
namespace Go.Fa
open Go Go.RowKit Go.Sy Go.Sz
set_option linter.unusedVariables false
set_option linter.unusedSimpArgs false
theorem strOf_one (b : BitVec 8) : strOf [(b, ())] = B [UInt8.ofBitVec b] := rfl
theorem ofBitVec_ch {b : BitVec 8} {m : Nat} (h : b.toNat = 48 + m) (hm : m < 10) : UInt8.ofBitVec b = ch m := by
  apply UInt8.toNat_inj.1
  rw [ch_nat hm]
  exact h
theorem dg_step {n : Nat} (h : ¬ n < 10) (s : ByteArray) {c : ByteArray} (hc : c = B [ch (n % 10)]) : B (dg n) ++ s = B (dg (n / 10)) ++ (c ++ s) := by
  rw [dg_ge h, ← B_append, hc]
  apply ByteArray.ext
  simp [ByteArray.data_append]
theorem dg_last {n : Nat} (h : n < 10) (s : ByteArray) {c : ByteArray} (hc : c = B [ch (n % 10)]) : B (dg n) ++ s = c ++ s := by
  rw [dg_lt h, hc, Nat.mod_eq_of_lt h]
theorem B_nil (s : ByteArray) : s ++ B [] = s := by
  apply ByteArray.ext
  simp [ByteArray.data_append, B]
theorem nb_all (k : Int) : ∀ c ∈ nb k, c = 45 ∨ 48 ≤ c.toNat ∧ c.toNat ≤ 57 := by
  intro c hc
  unfold nb at hc
  split at hc
  · rcases List.mem_cons.1 hc with rfl | hc
    · exact .inl rfl
    · exact .inr (dg_all _ c hc)
  · exact .inr (dg_all _ c hc)
theorem nb_no {k : Int} {x : UInt8} (h1 : x ≠ 45) (h2 : x.toNat < 48) : x ∉ nb k := fun h => by
  rcases nb_all k x h with h | h
  · exact h1 h
  · omega
theorem nb_no' {k : Int} {x : UInt8} (h2 : 57 < x.toNat) : x ∉ nb k := fun h => by
  rcases nb_all k x h with rfl | h
  · exact absurd h2 (by decide)
  · omega
end Go.Fa
namespace Go.Fa
open Go Go.RowKit Go.Sy Go.Sz
set_option linter.unusedVariables false
set_option linter.unusedSimpArgs false
def strT : Tys := .cons .str .nil
def noSemi (s : ByteArray) (i : Nat) : Prop := ∀ j, i ≤ j → j < s.size → (byteAt s j == BitVec.ofInt 8 59) = false
def blankB (b : BitVec 8) : Bool := (b == BitVec.ofInt 8 32) || (b == BitVec.ofInt 8 9)
def tmB (s : ByteArray) : ByteArray := bif decide (0 < s.size) && (byteAt s 0 == BitVec.ofInt 8 32) then s.extract 1 s.size else s
def tmF (s : ByteArray) : Prop := s.size = 0 ∨ (byteAt s 0 = BitVec.ofInt 8 32 ∧ (s.size = 1 ∨ blankB (byteAt s 1) = false)) ∨ blankB (byteAt s 0) = false
theorem ext1_size (s : ByteArray) : (s.extract 1 s.size).size = s.size - 1 := by simp
theorem ext1_at (s : ByteArray) (j : Nat) : byteAt (s.extract 1 s.size) j = byteAt s (j + 1) := by
  rw [← B_list s, B_extract, byteAt_B, byteAt_B, B_size]
  congr 1
  rw [List.getD_eq_getElem?_getD, List.getD_eq_getElem?_getD, List.getElem?_take, List.getElem?_drop]
  split
  · rw [Nat.add_comm]
  · rw [List.getElem?_eq_none (by omega)]
end Go.Fa
