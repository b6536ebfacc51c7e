/-
  A part of the proof (written by our own tools).
-/
import Derived.Test.YtihjfikdpodffaaGreatDoorFtP
namespace Go.Proofs.YtihjfikdpodffaaGreatDoor
open Go Go.Sy Go.Sz Go.Vy Go.Fa
set_option linter.unusedVariables false
set_option linter.unusedSimpArgs false
set_option maxRecDepth 1000000
/-! ### A text by its pieces -/
def subC (c : UInt8) : UInt8 := if c = 59 then 10 else c
theorem subR_B : ∀ (l pre : List UInt8), Fp.subR l.length (B (pre ++ l)) pre.length = l.map fun c => ((subC c).toBitVec, ())
  | [], pre => rfl
  | c :: l, pre => by
    have ih := subR_B l (pre ++ [c])
    simp only [List.append_assoc, List.cons_append, List.nil_append, List.length_append, List.length_cons, List.length_nil] at ih
    show (Fp.subB (byteAt (B (pre ++ c :: l)) pre.length), ()) :: Fp.subR l.length (B (pre ++ c :: l)) (pre.length + 1) = _
    rw [Nat.zero_add] at ih
    rw [ih]
    simp only [List.map_cons]
    congr 2
    have hb : byteAt (B (pre ++ c :: l)) pre.length = c.toBitVec := by
      rw [byteAt_B, List.getD_eq_getElem?_getD, List.getElem?_append_right (Nat.le_refl _)]
      simp
    rw [hb]
    unfold Fp.subB subC
    by_cases h : c = 59
    · subst h; rfl
    · rw [if_neg h]
      have : (c.toBitVec == BitVec.ofInt 8 59) = false := by
        rw [beq_eq_false_iff_ne]
        intro hc
        exact h (UInt8.toBitVec_inj.1 (hc.trans rfl))
      rw [this]; rfl
theorem txt_B (l : List UInt8) : Fp.txt (B l) = B (l.map subC) := by
  unfold Fp.txt
  have := subR_B l []
  simp only [List.nil_append, List.length_nil] at this
  rw [B_size, this]
  unfold strOf B
  congr 1
  show (List.map (fun x : BitVec 8 × Unit => UInt8.ofBitVec x.1) (List.map (fun c => ((subC c).toBitVec, ())) l)).toArray = _
  rw [List.map_map]
  congr 1
theorem sub_none : ∀ {l : List UInt8}, (59 : UInt8) ∉ l → l.map subC = l
  | [], _ => rfl
  | c :: l, h => by
    simp only [List.map_cons]
    rw [sub_none (l := l) (fun hc => h (List.mem_cons_of_mem _ hc))]
    unfold subC
    rw [if_neg (fun e => h (by rw [e]; exact List.mem_cons_self))]
theorem sub_join : ∀ {ps : List (List UInt8)}, (∀ p ∈ ps, (59 : UInt8) ∉ p) → (joinC 59 ps).map subC = join ps
  | [], _ => rfl
  | [p], h => sub_none (h p (by simp))
  | p :: q :: l, h => by
    simp only [joinC, join, List.map_append, List.map_cons]
    rw [sub_none (h p (by simp)), sub_join (ps := q :: l) (fun x hx => h x (by simp only [List.mem_cons] at hx ⊢; exact .inr hx))]
    rfl
theorem noSemi_B {l : List UInt8} (h : (59 : UInt8) ∉ l) : noSemi (B l) 0 := fun j _ hj => by
  rw [B_size] at hj
  rw [byteAt_B, beq_eq_false_iff_ne]
  intro hc
  have e : l.getD j 0 = 59 := UInt8.toBitVec_inj.1 (hc.trans rfl)
  rw [List.getD_eq_getElem?_getD, List.getElem?_eq_getElem hj] at e
  exact h (by rw [← e]; exact List.getElem_mem hj)
theorem blank_B {c : UInt8} (h1 : c ≠ 32) (h2 : c ≠ 9) : blankB c.toBitVec = false := by
  unfold blankB
  rw [Bool.or_eq_false_iff]
  constructor
  · rw [beq_eq_false_iff_ne]; intro hc; exact h1 (UInt8.toBitVec_inj.1 (hc.trans rfl))
  · rw [beq_eq_false_iff_ne]; intro hc; exact h2 (UInt8.toBitVec_inj.1 (hc.trans rfl))
structure Lt (t : List UInt8) : Prop where
  len : t.length ≤ 60000
  hd : ∃ c l, t = c :: l ∧ c ≠ 32 ∧ c ≠ 9
  last : ∃ l c, t = l ++ [c] ∧ c ≠ 32 ∧ c ≠ 9
  semi : (59 : UInt8) ∉ t
theorem tm_plain {t : List UInt8} (h : Lt t) : tmB (B t) = B t ∧ Fp.trOk (B t) := by
  obtain ⟨c, l, rfl, c1, c2⟩ := h.hd
  have h0 : byteAt (B (c :: l)) 0 = c.toBitVec := by rw [byteAt_B]; rfl
  have hb : blankB (byteAt (B (c :: l)) 0) = false := by rw [h0]; exact blank_B c1 c2
  have hne : (byteAt (B (c :: l)) 0 == BitVec.ofInt 8 32) = false := by unfold blankB at hb; exact (Bool.or_eq_false_iff.1 hb).1
  have e : tmB (B (c :: l)) = B (c :: l) := by unfold tmB; rw [hne, Bool.and_false]; rfl
  refine ⟨e, by rw [B_size]; exact Nat.le_trans h.len (by omega), noSemi_B h.semi, .inr (.inr hb), .inr ?_⟩
  rw [e, B_size, byteAt_B]
  obtain ⟨l', d, hl, d1, d2⟩ := h.last
  rw [hl]
  have : (l' ++ [d]).getD ((l' ++ [d]).length - 1) 0 = d := by simp [List.getD_eq_getElem?_getD]
  rw [this]; exact blank_B d1 d2
theorem tm_blank {t : List UInt8} (h : Lt t) : tmB (B (32 :: t)) = B t ∧ Fp.trOk (B (32 :: t)) := by
  have h0 : byteAt (B (32 :: t)) 0 = BitVec.ofInt 8 32 := by rw [byteAt_B]; rfl
  have e : tmB (B (32 :: t)) = B t := by
    unfold tmB
    rw [h0, B_size, decide_eq_true (by simp), B_extract]
    show B _ = B t
    congr 1
    simp
  obtain ⟨c, l, rfl, c1, c2⟩ := h.hd
  have h1 : byteAt (B (32 :: c :: l)) 1 = c.toBitVec := by rw [byteAt_B]; rfl
  refine ⟨e, by rw [B_size]; have := h.len; simp only [List.length_cons] at this ⊢; omega, noSemi_B (by
    intro hc
    rcases List.mem_cons.1 hc with hc | hc
    · exact absurd hc (by decide)
    · exact h.semi hc), .inr (.inl ⟨h0, .inr (by rw [h1]; exact blank_B c1 c2)⟩), .inr ?_⟩
  rw [e, B_size, byteAt_B]
  obtain ⟨l', d, hl, d1, d2⟩ := h.last
  rw [hl]
  have : (l' ++ [d]).getD ((l' ++ [d]).length - 1) 0 = d := by simp [List.getD_eq_getElem?_getD]
  rw [this]; exact blank_B d1 d2
section
variable [Inhabited Fp.LK]
theorem ln_of {p t : List UInt8} {x : Slots} (h : tmB (B p) = B t ∧ Fp.trOk (B p)) (ht : t ≠ []) (h1 : Fp.onF (B t) = true) (h2 : Fp.onG (B t) = x) (hx : x.length ≤ 2) : Fp.lnV (B p) = some x := by
  unfold Fp.lnV
  rw [show decC (Fp.trOk (B p)) = true by unfold decC; exact @decide_eq_true _ (Classical.propDecidable _) h.2, cond_true, h.1]
  have he : eqBA (B t) ⟨#[]⟩ = false := by
    cases hb : eqBA (B t) ⟨#[]⟩ with
    | false => rfl
    | true => exact absurd (B_inj (b := []) (eqBA_eq hb)) ht
  rw [he, cond_false, h1, h2, decide_eq_true hx]; rfl
end
/-! ### FamTail's text -/
def lnM : List UInt8 := [114, 50, 32, 61, 32, 109, 97, 112, 32, 48]
def lnC : List UInt8 := [99, 97, 108, 108, 32, 54]
def lnE : List UInt8 := [101, 120, 105, 116]
theorem Lt_M : Lt lnM := ⟨by decide, ⟨_, _, rfl, by decide, by decide⟩, ⟨[114, 50, 32, 61, 32, 109, 97, 112, 32], 48, rfl, by decide, by decide⟩, by decide⟩
theorem Lt_C : Lt lnC := ⟨by decide, ⟨_, _, rfl, by decide, by decide⟩, ⟨[99, 97, 108, 108, 32], 54, rfl, by decide, by decide⟩, by decide⟩
theorem Lt_E : Lt lnE := ⟨by decide, ⟨_, _, rfl, by decide, by decide⟩, ⟨[101, 120, 105], 116, rfl, by decide, by decide⟩, by decide⟩
theorem last_dg : ∀ (n : Nat), ∃ l c, dg n = l ++ [c] ∧ 48 ≤ c.toNat := fun n => by
  by_cases h : n < 10
  · exact ⟨[], ch n, by rw [dg_lt h]; rfl, by rw [ch_nat h]; omega⟩
  · exact ⟨dg (n / 10), ch (n % 10), dg_ge h, by rw [ch_nat (Nat.mod_lt _ (by omega))]; omega⟩
theorem last_nb (k : Int) : ∃ l c, nb k = l ++ [c] ∧ 48 ≤ c.toNat := by
  unfold nb
  split
  · obtain ⟨l, c, h1, h2⟩ := last_dg (-k).toNat
    exact ⟨45 :: l, c, by rw [h1]; rfl, h2⟩
  · exact last_dg _
theorem Lt_K (d : UInt8) (hd : d ≠ 59) (k : Int) (h1 : -2147483648 ≤ k) (h2 : k ≤ 2147483647) : Lt (lnK d k) := by
  refine ⟨?_, ⟨114, _, rfl, by decide, by decide⟩, ?_, ?_⟩
  · have := len_nba k h1 h2
    simp only [lnK, List.length_append, List.length_cons, List.length_nil]; omega
  · obtain ⟨l, c, e, hc⟩ := last_nb k
    refine ⟨[114, d, 32, 61, 32] ++ l, c, by unfold lnK; rw [e, List.append_assoc], ?_, ?_⟩
    · intro h; rw [h] at hc; exact absurd hc (by decide)
    · intro h; rw [h] at hc; exact absurd hc (by decide)
  · intro hc
    rcases List.mem_append.1 hc with hc | hc
    · simp only [List.mem_cons, List.not_mem_nil, or_false] at hc
      rcases hc with hc | hc | hc | hc | hc
      · exact absurd hc (by decide)
      · exact hd hc.symm
      · exact absurd hc (by decide)
      · exact absurd hc (by decide)
      · exact absurd hc (by decide)
    · exact absurd hc (nb_no' (by decide))
section
variable (a k : Int)
noncomputable def tbT : Tb := [(B (lnK 51 a), [(183#8, 3#8, 0#8, 0, a, ())]), (B (lnK 48 k), [(183#8, 0#8, 0#8, 0, k, ())]), (B lnM, [(24#8, 2#8, 1#8, 0, 0, ()), (0#8, 0#8, 0#8, 0, 0, ())]), (B lnC, [(133#8, 0#8, 0#8, 0, 6, ())]), (B lnE, [(149#8, 0#8, 0#8, 0, 0, ())])]
theorem lok (ha1 : -2147483648 ≤ a) (ha2 : a ≤ 2147483647) (hk1 : -2147483648 ≤ k) (hk2 : k ≤ 2147483647) : SummOk Kn Tryz.prog 58 (oneS (fndT (tbT a k)) (getT (tbT a k))) :=
  lines_ok ⟨_, Tryz.func58, by kernel_rfl, by kernel_rfl⟩ (.cons (linea a ha1 ha2) (.cons (linek k hk1 hk2) (.cons lineCm (.cons lineCc (.cons lineCe .nil)))))
noncomputable def LKt (ha1 : -2147483648 ≤ a) (ha2 : a ≤ 2147483647) (hk1 : -2147483648 ≤ k) (hk2 : k ≤ 2147483647) : Fp.LK := ⟨fndT (tbT a k), getT (tbT a k), lok a k ha1 ha2 hk1 hk2⟩
noncomputable def psT : List (List UInt8) := [lnM, 32 :: lnK 51 a, 32 :: lnC, 32 :: lnK 48 k, 32 :: lnE]
noncomputable def slT : Slots := [(24#8, 2#8, 1#8, 0, 0, ()), (0#8, 0#8, 0#8, 0, 0, ()), (183#8, 3#8, 0#8, 0, a, ()), (133#8, 0#8, 0#8, 0, 6, ()), (183#8, 0#8, 0#8, 0, k, ()), (149#8, 0#8, 0#8, 0, 0, ())]
theorem all_T (ha1 : -2147483648 ≤ a) (ha2 : a ≤ 2147483647) (hk1 : -2147483648 ≤ k) (hk2 : k ≤ 2147483647) : lnAll (@Fp.lnV ⟨LKt a k ha1 ha2 hk1 hk2⟩) (psT a k) = some (slT a k) := by
  letI : Inhabited Fp.LK := ⟨LKt a k ha1 ha2 hk1 hk2⟩
  have f1 : eqBA (B (lnK 51 a)) (B (lnK 48 k)) = false := rfl
  have e1 : Fp.lnV (B lnM) = some [(24#8, 2#8, 1#8, 0, 0, ()), (0#8, 0#8, 0#8, 0, 0, ())] := ln_of (tm_plain Lt_M) (by decide) rfl rfl (by decide)
  have e2 : Fp.lnV (B (32 :: lnK 51 a)) = some [(183#8, 3#8, 0#8, 0, a, ())] := ln_of (tm_blank (Lt_K 51 (by decide) a ha1 ha2)) (by simp [lnK])
    (by show (eqBA (B (lnK 51 a)) (B (lnK 51 a)) || _) = true; rw [eqBA_refl]; rfl) (by show getT (tbT a k) (B (lnK 51 a)) = _; simp only [tbT, getT, eqBA_refl, cond_true]) (by simp)
  have e3 : Fp.lnV (B (32 :: lnC)) = some [(133#8, 0#8, 0#8, 0, 6, ())] := ln_of (tm_blank Lt_C) (by decide) rfl rfl (by decide)
  have e4 : Fp.lnV (B (32 :: lnK 48 k)) = some [(183#8, 0#8, 0#8, 0, k, ())] := ln_of (tm_blank (Lt_K 48 (by decide) k hk1 hk2)) (by simp [lnK])
    (by show (eqBA (B (lnK 51 a)) (B (lnK 48 k)) || (eqBA (B (lnK 48 k)) (B (lnK 48 k)) || _)) = true; rw [f1, eqBA_refl]; rfl)
    (by show getT (tbT a k) (B (lnK 48 k)) = _; simp only [tbT, getT, f1, eqBA_refl, cond_true, cond_false]) (by simp)
  have e5 : Fp.lnV (B (32 :: lnE)) = some [(149#8, 0#8, 0#8, 0, 0, ())] := ln_of (tm_blank Lt_E) (by decide) rfl rfl (by decide)
  simp only [psT, lnAll, e1, e2, e3, e4, e5]
  rfl
end
end Go.Proofs.YtihjfikdpodffaaGreatDoor
