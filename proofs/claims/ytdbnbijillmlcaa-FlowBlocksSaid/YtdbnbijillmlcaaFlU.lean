/-
  Control flow: what blocks are like.
-/
import Derived.Test.YtdbnbijillmlcaaFlT
namespace Go.Fl
open Go Go.Sy Go.Sz Go.In
set_option linter.unusedVariables false
set_option linter.unusedSimpArgs false

/-- the last slot ahead that is reached -/
def prevR (r : Bools) : Nat → Nat
  | 0 => 0
  | k + 1 => bif bitA r k then k else prevR r k
structure BHyp (r b s : Bools) (nx : Nat → Ints) : Prop where
  sec0 : bitA s 0 = false
  sec1 : ∀ k, bitA s (k + 1) = true → bitA s k = false
  secR : ∀ k, bitA s k = true → bitA r k = false
  one : ∀ k, bitA r k = true → bitA r (k + 1) = true → bitA s (k + 1) = false → bitA b (k + 1) = false → nx k = [(((k + 1 : Nat) : Int), ())]
  two : ∀ k, bitA r k = true → bitA s (k + 1) = true → bitA r (k + 2) = true → nx k = [(((k + 2 : Nat) : Int), ())]
structure BInv (r s : Bools) (nx : Nat → Ints) (o : Parts) (x : Bool) (i : Nat) : Prop where
  up : ∀ j, j < o.length → 0 ≤ (In.partOf o j).1 ∧ (In.partOf o j).1 < (In.partOf o j).2.1 ∧ (In.partOf o j).2.1 ≤ i
  rise : ∀ j, j + 1 < o.length → (In.partOf o j).2.1 ≤ (In.partOf o (j + 1)).1
  first : ∀ j, j < o.length → bitA r (In.partOf o j).1.toNat = true
  chain : ∀ j, j < o.length → ∀ k : Nat, (In.partOf o j).1 < k → k < (In.partOf o j).2.1 → bitA r k = true → nx (prevR r k) = [((k : Int), ())]
  cover : ∀ k : Nat, k < i → bitA r k = true → ∃ j, j < o.length ∧ (In.partOf o j).1 ≤ k ∧ k < (In.partOf o j).2.1
  open_ : x = true → 0 < o.length ∧ (In.partOf o (o.length - 1)).2.1 = i ∧ 1 ≤ i ∧ (bitA r (i - 1) = true ∨ (2 ≤ i ∧ bitA s (i - 1) = true ∧ bitA r (i - 2) = true))

theorem setTo_len (o : Parts) (t : Int) : (setTo o t).length = o.length := List.length_set
theorem setTo_get {o : Parts} {t : Int} {j : Nat} (h : 0 < o.length) : In.partOf (setTo o t) j = if j = o.length - 1 then ((In.partOf o j).1, t, ()) else In.partOf o j := by
  unfold setTo
  rw [In.partOf, getD_set _ _ _ _ _ (by omega)]
  by_cases e : j = o.length - 1
  · rw [if_pos e, if_pos e, e]
  · rw [if_neg e, if_neg e]
theorem app_get (o : Parts) (q : SubP) (j : Nat) : In.partOf (o ++ [q]) j = if j < o.length then In.partOf o j else if j = o.length then q else (0, 0, ()) := by
  unfold In.partOf
  by_cases h : j < o.length
  · rw [if_pos h, app_left _ _ _ _ h]
  · rw [if_neg h, app_right _ _ _ _ (by omega)]
    by_cases e : j = o.length
    · rw [if_pos e, e, Nat.sub_self]; rfl
    · rw [if_neg e]
      rw [List.getD_eq_getElem?_getD, List.getElem?_eq_none (by simp; omega)]; rfl
section
variable {r b s : Bools} {nx : Nat → Ints}
theorem BInv.ext {o : Parts} {x : Bool} {i : Nat} (h : BInv r s nx o x i) (hx : x = true) {y : Bool} (hch : bitA r i = true → nx (prevR r i) = [((i : Int), ())]) (ho : y = true → bitA r i = true ∨ (2 ≤ i + 1 ∧ bitA s i = true ∧ bitA r (i - 1) = true)) : BInv r s nx (setTo o ((i : Int) + 1)) y (i + 1) := by
  obtain ⟨h0, hto, h1, _⟩ := h.open_ hx
  have hl := setTo_len o ((i : Int) + 1)
  refine ⟨fun j hj => ?_, fun j hj => ?_, fun j hj => ?_, fun j hj k k1 k2 hk => ?_, fun k hk hr => ?_, fun hy => ?_⟩
  · rw [hl] at hj
    have := h.up j hj
    rw [setTo_get h0]
    split
    · dsimp only; omega
    · omega
  · rw [hl] at hj
    have := h.rise j hj
    rw [setTo_get h0, setTo_get h0, if_neg (by omega)]
    split
    · exact this
    · exact this
  · rw [hl] at hj
    have := h.first j hj
    rw [setTo_get h0]
    split
    · exact this
    · exact this
  · rw [hl] at hj
    rw [setTo_get h0] at k1 k2
    by_cases e : j = o.length - 1
    · rw [if_pos e] at k1 k2
      dsimp only at k1 k2
      by_cases ek : k = i
      · rw [ek]; rw [ek] at hk; exact hch hk
      · refine h.chain j hj k k1 ?_ hk
        rw [e, hto]; omega
    · rw [if_neg e] at k1 k2
      exact h.chain j hj k k1 k2 hk
  · by_cases e : k = i
    · refine ⟨o.length - 1, by omega, ?_⟩
      have := h.up (o.length - 1) (by omega)
      rw [setTo_get h0, if_pos rfl]
      dsimp only
      omega
    · obtain ⟨j, j1, j2, j3⟩ := h.cover k (by omega) hr
      refine ⟨j, by omega, ?_⟩
      rw [setTo_get h0]
      split
      · dsimp only; omega
      · exact ⟨j2, j3⟩
  · refine ⟨by omega, ?_, by omega, ?_⟩
    · rw [hl, setTo_get h0, if_pos rfl]; dsimp only; omega
    · rw [Nat.add_sub_cancel]
      rcases ho hy with g | ⟨g1, g2, g3⟩
      · exact .inl g
      · exact .inr ⟨g1, g2, by rw [show i + 1 - 2 = i - 1 by omega]; exact g3⟩
theorem bstep_inv (H : BHyp r b s nx) {o : Parts} {x : Bool} {i : Nat} (h : BInv r s nx o x i) : BInv r s nx (bstep r b s (o, x) i).1 (bstep r b s (o, x) i).2 (i + 1) := by
  have keep : ∀ y : Bool, bitA r i = false → (y = true → False) → BInv r s nx o y (i + 1) := fun y hr hy =>
    ⟨fun j hj => by have := h.up j hj; omega, h.rise, h.first, h.chain, fun k hk hkr => by
      by_cases e : k = i
      · rw [e, hr] at hkr; cases hkr
      · exact h.cover k (by omega) hkr, fun e => (hy e).elim⟩
  unfold bstep
  cases c1 : bitA s i with
  | true =>
    have hri := H.secR i c1
    have hi0 : i ≠ 0 := fun e => by rw [e, H.sec0] at c1; cases c1
    cases x with
    | false => exact keep false hri (fun e => by cases e)
    | true =>
      cases c2 : bitA r (i - 1) with
      | true => exact h.ext rfl (fun e => by rw [hri] at e; cases e) (fun _ => .inr ⟨by omega, c1, c2⟩)
      | false =>
        obtain ⟨_, _, _, g | ⟨g1, g2, g3⟩⟩ := h.open_ rfl
        · rw [g] at c2; cases c2
        · have := H.sec1 (i - 1) (by rw [show i - 1 + 1 = i by omega]; exact c1)
          rw [this] at g2; cases g2
  | false =>
    cases c2 : bitA r i with
    | false => exact keep false c2 (fun e => by cases e)
    | true =>
      have fresh : BInv r s nx (o ++ [((i : Int), (i : Int) + 1, ())]) true (i + 1) := by
        have hl : (o ++ [((i : Int), (i : Int) + 1, ())] : Parts).length = o.length + 1 := by simp
        refine ⟨fun j hj => ?_, fun j hj => ?_, fun j hj => ?_, fun j hj k k1 k2 hk => ?_, fun k hk hr => ?_, fun _ => ⟨by omega, ?_, by omega, .inl (by rw [Nat.add_sub_cancel]; exact c2)⟩⟩
        · rw [hl] at hj
          rw [app_get]
          by_cases e : j < o.length
          · rw [if_pos e]; have := h.up j e; omega
          · rw [if_neg e, if_pos (by omega)]; dsimp only; omega
        · rw [hl] at hj
          rw [app_get, app_get, if_pos (by omega)]
          by_cases e : j + 1 < o.length
          · rw [if_pos e]; exact h.rise j e
          · rw [if_neg e, if_pos (by omega)]
            have := h.up j (by omega)
            dsimp only; omega
        · rw [hl] at hj
          rw [app_get]
          by_cases e : j < o.length
          · rw [if_pos e]; exact h.first j e
          · rw [if_neg e, if_pos (by omega)]; exact c2
        · rw [hl] at hj
          rw [app_get] at k1 k2
          by_cases e : j < o.length
          · rw [if_pos e] at k1 k2; exact h.chain j e k k1 k2 hk
          · rw [if_neg e, if_pos (by omega)] at k1 k2
            dsimp only at k1 k2; omega
        · by_cases e : k = i
          · refine ⟨o.length, by omega, ?_⟩
            rw [app_get, if_neg (by omega), if_pos rfl]
            dsimp only; omega
          · obtain ⟨j, j1, j2, j3⟩ := h.cover k (by omega) hr
            refine ⟨j, by omega, ?_⟩
            rw [app_get, if_pos j1]
            exact ⟨j2, j3⟩
        · rw [hl, Nat.add_sub_cancel, app_get, if_neg (by omega), if_pos rfl]; dsimp only; omega
      cases x with
      | false => exact fresh
      | true =>
        cases c3 : bitA b i with
        | true => exact fresh
        | false =>
          refine h.ext rfl (fun _ => ?_) (fun _ => .inl c2)
          obtain ⟨_, _, h1, g⟩ := h.open_ rfl
          obtain ⟨m, rfl⟩ : ∃ m, i = m + 1 := ⟨i - 1, by omega⟩
          rw [Nat.add_sub_cancel] at g
          rcases g with g | ⟨g1, g2, g3⟩
          · have e : prevR r (m + 1) = m := by unfold prevR; rw [g]; rfl
            rw [e]; exact H.one m g c2 c1 c3
          · obtain ⟨q, rfl⟩ : ∃ q, m = q + 1 := ⟨m - 1, by omega⟩
            have hq := H.secR _ g2
            have g3' : bitA r q = true := g3
            have e : prevR r (q + 1 + 1) = q := by
              unfold prevR; rw [hq]
              show prevR r (q + 1) = q
              unfold prevR; rw [g3']; rfl
            rw [e]; exact H.two q g3' g2 c2
theorem bfold_inv (H : BHyp r b s nx) : ∀ (m i n : Nat) (o : Parts) (x : Bool), n - i = m → i ≤ n → BInv r s nx o x i → ∃ y, BInv r s nx (bfold r b s i n (o, x)).1 y n
  | 0, i, n, o, x, hm, hi, h => by
    have : i = n := by omega
    subst this
    rw [bfold_end (Nat.le_refl _)]; exact ⟨x, h⟩
  | m + 1, i, n, o, x, hm, hi, h => by
    rw [bfold_up (by omega)]
    exact bfold_inv H m (i + 1) n _ _ (by omega) (by omega) (bstep_inv H h)
theorem blocks_inv (H : BHyp r b s nx) (n : Nat) : ∃ y, BInv r s nx (bfold r b s 0 n ([], false)).1 y n :=
  bfold_inv H n 0 n [] false rfl (Nat.zero_le _) ⟨fun j hj => absurd hj (Nat.not_lt_zero _), fun j hj => absurd hj (Nat.not_lt_zero _), fun j hj => absurd hj (Nat.not_lt_zero _), fun j hj => absurd hj (Nat.not_lt_zero _), fun k hk => absurd hk (Nat.not_lt_zero _), fun e => by cases e⟩
end
theorem BInv.low {r s : Bools} {nx : Nat → Ints} {o : Parts} {x : Bool} {i : Nat} (h : BInv r s nx o x i) : ∀ j, j < o.length → (j : Int) ≤ (In.partOf o j).1
  | 0, hj => (h.up 0 hj).1
  | j + 1, hj => by
    have h1 := h.low j (by omega)
    have h2 := h.up j (by omega)
    have h3 := h.rise j hj
    omega
theorem BInv.few {r s : Bools} {nx : Nat → Ints} {o : Parts} {x : Bool} {i : Nat} (h : BInv r s nx o x i) : o.length ≤ i := by
  by_cases h0 : o.length = 0
  · omega
  · have h1 := h.low (o.length - 1) (by omega)
    have h2 := h.up (o.length - 1) (by omega)
    omega
theorem prevR_up (r : Bools) (k : Nat) : prevR r (k + 1) = bif bitA r k then k else prevR r k := rfl
theorem prevR_lt (r : Bools) : ∀ k, 0 < k → prevR r k < k
  | k + 1, _ => by
    unfold prevR
    cases bitA r k
    · show prevR r k < k + 1
      cases k with
      | zero => exact Nat.zero_lt_one
      | succ k => have := prevR_lt r (k + 1) (Nat.succ_pos _); omega
    · exact Nat.lt_succ_self _
theorem prevR_hit {r : Bools} : ∀ {k m : Nat}, m < k → bitA r m = true → bitA r (prevR r k) = true
  | 0, m, h, _ => absurd h (Nat.not_lt_zero _)
  | k + 1, m, h, hm => by
    unfold prevR
    cases c : bitA r k with
    | true => exact c
    | false =>
      by_cases e : m = k
      · rw [e, c] at hm; cases hm
      · exact prevR_hit (by omega) hm
/-! ### What the law goes through -/
def markR (r : Bools) : Nat → Nat → Bools → Bools
  | 0, _, o => o
  | n + 1, k, o => markR r n (k + 1) (bif bitA r k then o.set k (true, ()) else o)
def marksB (r : Bools) (p : Parts) (o : Bools) : Bools := p.foldl (fun o q => markR r (q.2.1 - q.1).toNat q.1.toNat o) o
theorem markR_up (r : Bools) (n k : Nat) (o : Bools) : markR r (n + 1) k o = markR r n (k + 1) (bif bitA r k then o.set k (true, ()) else o) := rfl
theorem markR_len (r : Bools) : ∀ (n k : Nat) (o : Bools), (markR r n k o).length = o.length
  | 0, _, o => rfl
  | n + 1, k, o => by
    unfold markR
    rw [markR_len r n]
    cases bitA r k
    · rfl
    · exact List.length_set
theorem marksB_len (r : Bools) : ∀ (p : Parts) (o : Bools), (marksB r p o).length = o.length
  | [], o => rfl
  | q :: p, o => by
    show (marksB r p _).length = _
    rw [marksB_len r p, markR_len]
theorem markR_get (r : Bools) (j : Nat) : ∀ (n k : Nat) (o : Bools), k + n ≤ o.length → (bitA (markR r n k o) j = true ↔ bitA o j = true ∨ (k ≤ j ∧ j < k + n ∧ bitA r j = true))
  | 0, k, o, _ => ⟨.inl, fun h => h.elim id fun h => by omega⟩
  | n + 1, k, o, h => by
    unfold markR
    have hl : (bif bitA r k then o.set k (true, ()) else o).length = o.length := by
      cases bitA r k
      · rfl
      · exact List.length_set
    rw [markR_get r j n (k + 1) _ (by omega)]
    have hk : bitA (bif bitA r k then o.set k (true, ()) else o) j = true ↔ bitA o j = true ∨ (j = k ∧ bitA r k = true) := by
      cases c : bitA r k with
      | false => exact ⟨.inl, fun h => h.elim id fun h => by cases h.2⟩
      | true =>
        show bitA (o.set k (true, ())) j = true ↔ _
        rw [bitA, getD_set _ _ _ _ _ (by omega)]
        by_cases e : j = k
        · rw [if_pos e]; exact ⟨fun _ => .inr ⟨e, rfl⟩, fun _ => rfl⟩
        · rw [if_neg e]; exact ⟨.inl, fun h => h.elim id fun h => absurd h.1 e⟩
    rw [hk]
    constructor
    · rintro ((h | ⟨rfl, h⟩) | ⟨h1, h2, h3⟩)
      · exact .inl h
      · exact .inr ⟨Nat.le_refl _, by omega, h⟩
      · exact .inr ⟨by omega, by omega, h3⟩
    · rintro (h | ⟨h1, h2, h3⟩)
      · exact .inl (.inl h)
      · by_cases e : j = k
        · exact .inl (.inr ⟨e, e ▸ h3⟩)
        · exact .inr ⟨by omega, by omega, h3⟩
theorem marksB_get (r : Bools) (j : Nat) : ∀ (p : Parts) (o : Bools), (∀ q ∈ p, 0 ≤ q.1 ∧ q.1 ≤ q.2.1 ∧ q.2.1 ≤ o.length) → (bitA (marksB r p o) j = true ↔ bitA o j = true ∨ ((∃ q ∈ p, q.1 ≤ j ∧ (j : Int) < q.2.1) ∧ bitA r j = true))
  | [], o, _ => ⟨.inl, fun h => h.elim id fun h => by obtain ⟨⟨q, hq, _⟩, _⟩ := h; cases hq⟩
  | q :: p, o, h => by
    have hq := h q (List.mem_cons_self ..)
    show bitA (marksB r p (markR r (q.2.1 - q.1).toNat q.1.toNat o)) j = true ↔ _
    rw [marksB_get r j p _ (fun q' hq' => by rw [markR_len]; exact h q' (List.mem_cons_of_mem _ hq')), markR_get r j _ _ _ (by omega)]
    constructor
    · rintro ((h1 | ⟨h1, h2, h3⟩) | ⟨⟨q', h1, h2⟩, h3⟩)
      · exact .inl h1
      · exact .inr ⟨⟨q, List.mem_cons_self .., by omega⟩, h3⟩
      · exact .inr ⟨⟨q', List.mem_cons_of_mem _ h1, h2⟩, h3⟩
    · rintro (h1 | ⟨⟨q', h1, h2⟩, h3⟩)
      · exact .inl (.inl h1)
      · rcases List.mem_cons.1 h1 with e | e
        · subst e; exact .inl (.inr ⟨by omega, by omega, h3⟩)
        · exact .inr ⟨⟨q', e, h2⟩, h3⟩
/-- All that is reached is covered. -/
theorem marks_all {r s : Bools} {nx : Nat → Ints} {o : Parts} {y : Bool} {n : Nat} (h : BInv r s nx o y n) (hr : r.length = n) : marksB r o (List.replicate n (false, ())) = r := by
  have hin : ∀ q ∈ o, 0 ≤ q.1 ∧ q.1 ≤ q.2.1 ∧ q.2.1 ≤ (List.replicate n (false, ()) : Bools).length := fun q hq => by
    obtain ⟨j, hj, rfl⟩ := List.getElem_of_mem hq
    have := h.up j hj
    have e : In.partOf o j = o[j] := by unfold In.partOf; rw [List.getD_eq_getElem?_getD, List.getElem?_eq_getElem hj]; rfl
    rw [e] at this
    rw [List.length_replicate]; omega
  refine ext_getD (false, ()) (by rw [marksB_len, List.length_replicate, hr]) fun j hj => ?_
  rw [marksB_len, List.length_replicate] at hj
  have hb : bitA (marksB r o (List.replicate n (false, ()))) j = bitA r j := by
    rw [Bool.eq_iff_iff, marksB_get r j o _ hin]
    have h0 : bitA (List.replicate n (false, ())) j = false := by
      unfold bitA; rw [List.getD_eq_getElem?_getD, List.getElem?_replicate]; split <;> rfl
    constructor
    · rintro (g | ⟨_, g⟩)
      · rw [h0] at g; cases g
      · exact g
    · intro g
      obtain ⟨i, i1, i2, i3⟩ := h.cover j hj g
      refine .inr ⟨⟨In.partOf o i, ?_, i2, i3⟩, g⟩
      unfold In.partOf
      rw [List.getD_eq_getElem?_getD, List.getElem?_eq_getElem i1]
      exact List.getElem_mem _
  unfold bitA at hb
  exact Prod.ext hb rfl
end Go.Fl
