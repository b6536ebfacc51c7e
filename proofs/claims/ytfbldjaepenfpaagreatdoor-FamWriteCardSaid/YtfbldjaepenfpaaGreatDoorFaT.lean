/-
  Texts by their pieces, their numbers not known: what all families share.
-/
import Derived.Test.YtfbldjaepenfpaaGreatDoorVyA
import Derived.Test.YtfbldjaepenfpaaGreatDoorFaQ
import Derived.Test.YtfbldjaepenfpaaGreatDoorVyP
namespace Go.Proofs.YtfbldjaepenfpaaGreatDoor
open Go Go.Sy Go.Sz Go.Vy Go.Fa
set_option linter.unusedVariables false
set_option linter.unusedSimpArgs false
set_option maxRecDepth 1000000
/-! ### A text by its pieces -/
def subC (c : UInt8) : UInt8 := if c = 59 then 10 else c
theorem subR_B : ∀ (l pre : List UInt8), Fp.subR l.length (B (pre ++ l)) pre.length = l.map fun c => ((subC c).toBitVec, ())
  | [], pre => rfl
  | c :: l, pre => by
    have ih := subR_B l (pre ++ [c])
    simp only [List.append_assoc, List.cons_append, List.nil_append, List.length_append, List.length_cons, List.length_nil] at ih
    show (Fp.subB (byteAt (B (pre ++ c :: l)) pre.length), ()) :: Fp.subR l.length (B (pre ++ c :: l)) (pre.length + 1) = _
    rw [Nat.zero_add] at ih
    rw [ih]
    simp only [List.map_cons]
    congr 2
    have hb : byteAt (B (pre ++ c :: l)) pre.length = c.toBitVec := by
      rw [byteAt_B, List.getD_eq_getElem?_getD, List.getElem?_append_right (Nat.le_refl _)]
      simp
    rw [hb]
    unfold Fp.subB subC
    by_cases h : c = 59
    · subst h; rfl
    · rw [if_neg h]
      have : (c.toBitVec == BitVec.ofInt 8 59) = false := by
        rw [beq_eq_false_iff_ne]
        intro hc
        exact h (UInt8.toBitVec_inj.1 (hc.trans rfl))
      rw [this]; rfl
theorem txt_B (l : List UInt8) : Fp.txt (B l) = B (l.map subC) := by
  unfold Fp.txt
  have := subR_B l []
  simp only [List.nil_append, List.length_nil] at this
  rw [B_size, this]
  unfold strOf B
  congr 1
  show (List.map (fun x : BitVec 8 × Unit => UInt8.ofBitVec x.1) (List.map (fun c => ((subC c).toBitVec, ())) l)).toArray = _
  rw [List.map_map]
  congr 1
theorem sub_none : ∀ {l : List UInt8}, (59 : UInt8) ∉ l → l.map subC = l
  | [], _ => rfl
  | c :: l, h => by
    simp only [List.map_cons]
    rw [sub_none (l := l) (fun hc => h (List.mem_cons_of_mem _ hc))]
    unfold subC
    rw [if_neg (fun e => h (by rw [e]; exact List.mem_cons_self))]
theorem sub_join : ∀ {ps : List (List UInt8)}, (∀ p ∈ ps, (59 : UInt8) ∉ p) → (joinC 59 ps).map subC = join ps
  | [], _ => rfl
  | [p], h => sub_none (h p (by simp))
  | p :: q :: l, h => by
    simp only [joinC, join, List.map_append, List.map_cons]
    rw [sub_none (h p (by simp)), sub_join (ps := q :: l) (fun x hx => h x (by simp only [List.mem_cons] at hx ⊢; exact .inr hx))]
    rfl
theorem noSemi_B {l : List UInt8} (h : (59 : UInt8) ∉ l) : noSemi (B l) 0 := fun j _ hj => by
  rw [B_size] at hj
  rw [byteAt_B, beq_eq_false_iff_ne]
  intro hc
  have e : l.getD j 0 = 59 := UInt8.toBitVec_inj.1 (hc.trans rfl)
  rw [List.getD_eq_getElem?_getD, List.getElem?_eq_getElem hj] at e
  exact h (by rw [← e]; exact List.getElem_mem hj)
theorem blank_B {c : UInt8} (h1 : c ≠ 32) (h2 : c ≠ 9) : blankB c.toBitVec = false := by
  unfold blankB
  rw [Bool.or_eq_false_iff]
  constructor
  · rw [beq_eq_false_iff_ne]; intro hc; exact h1 (UInt8.toBitVec_inj.1 (hc.trans rfl))
  · rw [beq_eq_false_iff_ne]; intro hc; exact h2 (UInt8.toBitVec_inj.1 (hc.trans rfl))
structure Lt (t : List UInt8) : Prop where
  len : t.length ≤ 60000
  hd : ∃ c l, t = c :: l ∧ c ≠ 32 ∧ c ≠ 9
  last : ∃ l c, t = l ++ [c] ∧ c ≠ 32 ∧ c ≠ 9
  semi : (59 : UInt8) ∉ t
theorem tm_plain {t : List UInt8} (h : Lt t) : tmB (B t) = B t ∧ Fp.trOk (B t) := by
  obtain ⟨c, l, rfl, c1, c2⟩ := h.hd
  have h0 : byteAt (B (c :: l)) 0 = c.toBitVec := by rw [byteAt_B]; rfl
  have hb : blankB (byteAt (B (c :: l)) 0) = false := by rw [h0]; exact blank_B c1 c2
  have hne : (byteAt (B (c :: l)) 0 == BitVec.ofInt 8 32) = false := by unfold blankB at hb; exact (Bool.or_eq_false_iff.1 hb).1
  have e : tmB (B (c :: l)) = B (c :: l) := by unfold tmB; rw [hne, Bool.and_false]; rfl
  refine ⟨e, by rw [B_size]; exact Nat.le_trans h.len (by omega), noSemi_B h.semi, .inr (.inr hb), .inr ?_⟩
  rw [e, B_size, byteAt_B]
  obtain ⟨l', d, hl, d1, d2⟩ := h.last
  rw [hl]
  have : (l' ++ [d]).getD ((l' ++ [d]).length - 1) 0 = d := by simp [List.getD_eq_getElem?_getD]
  rw [this]; exact blank_B d1 d2
theorem tm_blank {t : List UInt8} (h : Lt t) : tmB (B (32 :: t)) = B t ∧ Fp.trOk (B (32 :: t)) := by
  have h0 : byteAt (B (32 :: t)) 0 = BitVec.ofInt 8 32 := by rw [byteAt_B]; rfl
  have e : tmB (B (32 :: t)) = B t := by
    unfold tmB
    rw [h0, B_size, decide_eq_true (by simp), B_extract]
    show B _ = B t
    congr 1
    simp
  obtain ⟨c, l, rfl, c1, c2⟩ := h.hd
  have h1 : byteAt (B (32 :: c :: l)) 1 = c.toBitVec := by rw [byteAt_B]; rfl
  refine ⟨e, by rw [B_size]; have := h.len; simp only [List.length_cons] at this ⊢; omega, noSemi_B (by
    intro hc
    rcases List.mem_cons.1 hc with hc | hc
    · exact absurd hc (by decide)
    · exact h.semi hc), .inr (.inl ⟨h0, .inr (by rw [h1]; exact blank_B c1 c2)⟩), .inr ?_⟩
  rw [e, B_size, byteAt_B]
  obtain ⟨l', d, hl, d1, d2⟩ := h.last
  rw [hl]
  have : (l' ++ [d]).getD ((l' ++ [d]).length - 1) 0 = d := by simp [List.getD_eq_getElem?_getD]
  rw [this]; exact blank_B d1 d2
section
variable [Inhabited Fp.LK]
theorem ln_of {p t : List UInt8} {x : Slots} (h : tmB (B p) = B t ∧ Fp.trOk (B p)) (ht : t ≠ []) (h1 : Fp.onF (B t) = true) (h2 : Fp.onG (B t) = x) (hx : x.length ≤ 2) : Fp.lnV (B p) = some x := by
  unfold Fp.lnV
  rw [show decC (Fp.trOk (B p)) = true by unfold decC; exact @decide_eq_true _ (Classical.propDecidable _) h.2, cond_true, h.1]
  have he : eqBA (B t) ⟨#[]⟩ = false := by
    cases hb : eqBA (B t) ⟨#[]⟩ with
    | false => rfl
    | true => exact absurd (B_inj (b := []) (eqBA_eq hb)) ht
  rw [he, cond_false, h1, h2, decide_eq_true hx]; rfl
end
theorem last_dg : ∀ (n : Nat), ∃ l c, dg n = l ++ [c] ∧ 48 ≤ c.toNat := fun n => by
  by_cases h : n < 10
  · exact ⟨[], ch n, by rw [dg_lt h]; rfl, by rw [ch_nat h]; omega⟩
  · exact ⟨dg (n / 10), ch (n % 10), dg_ge h, by rw [ch_nat (Nat.mod_lt _ (by omega))]; omega⟩
theorem last_nb (k : Int) : ∃ l c, nb k = l ++ [c] ∧ 48 ≤ c.toNat := by
  unfold nb
  split
  · obtain ⟨l, c, h1, h2⟩ := last_dg (-k).toNat
    exact ⟨45 :: l, c, by rw [h1]; rfl, h2⟩
  · exact last_dg _
theorem len_nb (k : Int) (h1 : -2147483648 ≤ k) (h2 : k ≤ 2147483647) : (nb k).length ≤ 21 := by
  unfold nb
  split
  · simp only [List.length_cons]
    have := dg_len 19 (-k).toNat (by omega)
    omega
  · have := dg_len 19 k.toNat (by omega)
    omega
theorem Lt_pre (c : UInt8) (l : List UInt8) (h1 : c ≠ 32) (h2 : c ≠ 9) (h3 : (59 : UInt8) ∉ c :: l) (h4 : l.length ≤ 100) (k : Int) (k1 : -2147483648 ≤ k) (k2 : k ≤ 2147483647) : Lt ((c :: l) ++ nb k) := by
  refine ⟨?_, ⟨c, _, rfl, h1, h2⟩, ?_, ?_⟩
  · have := len_nb k k1 k2
    simp only [List.length_append, List.length_cons]; omega
  · obtain ⟨m, d, e, hc⟩ := last_nb k
    refine ⟨(c :: l) ++ m, d, by rw [e, List.append_assoc], ?_, ?_⟩
    · intro h; rw [h] at hc; exact absurd hc (by decide)
    · intro h; rw [h] at hc; exact absurd hc (by decide)
  · intro hc
    rcases List.mem_append.1 hc with hc | hc
    · exact h3 hc
    · exact absurd hc (nb_no' (by decide))
theorem sm_pre (p : List UInt8) (h1 : (59 : UInt8) ∉ p) (h2 : (10 : UInt8) ∉ p) (k : Int) : (59 : UInt8) ∉ p ++ nb k ∧ (10 : UInt8) ∉ p ++ nb k :=
  ⟨fun hc => (List.mem_append.1 hc).elim h1 (nb_no' (by decide)), fun hc => (List.mem_append.1 hc).elim h2 (nb_no (by decide) (by decide))⟩
theorem sm_b {l : List UInt8} (h : (59 : UInt8) ∉ l ∧ (10 : UInt8) ∉ l) : (59 : UInt8) ∉ (32 :: l) ∧ (10 : UInt8) ∉ (32 :: l) :=
  ⟨fun hc => (List.mem_cons.1 hc).elim (fun e => absurd e (by decide)) h.1, fun hc => (List.mem_cons.1 hc).elim (fun e => absurd e (by decide)) h.2⟩
theorem neqB {a b : List UInt8} (h : a ≠ b) : eqBA (B a) (B b) = false := by
  cases hb : eqBA (B a) (B b) with
  | false => rfl
  | true => exact absurd (B_inj (eqBA_eq hb)) h
theorem not_f {b : Bool} (h : b = false) : (!b) = true := by rw [h]; rfl
theorem len_joinC : ∀ ps : List (List UInt8), (joinC 59 ps).length = (join ps).length
  | [] => rfl
  | [p] => rfl
  | p :: q :: l => by
    have := len_joinC (q :: l)
    simp only [joinC, join, List.length_append, List.length_cons]; omega
theorem gN (m m2 : Nat) (a : Int) (h1 : -2147483648 ≤ a) (h2 : a ≤ 2147483647) : RowG (sumT [.any] false [.c (.i .i64)] [] Fp.F_n17) ⟨[.c (.y m (.v (.int .i64 a)))], [], .c (.y m2 (.v (.string (B (nb a))))), []⟩ := by
  refine ⟨rfl, .c (.v (.string (B (nb a)))), [], ?_, rfl, rfl, rfl, rfl, .nil⟩
  show (ckP (-9223372036854775808 ≤ a ∧ a ≤ 9223372036854775807) (.ret (AV.c (.v (.string (B (nb a)))), ([] : List Ob)))).run = _
  rw [ckP_true ⟨by omega, by omega⟩]; rfl
theorem gTxt (K : Fp.LK) {C : ByteArray} {ps : List (List UInt8)} {sl : Slots} (hC : C = B (joinC 59 ps)) (hne : ps ≠ []) (hs : ∀ p ∈ ps, (59 : UInt8) ∉ p ∧ (10 : UInt8) ∉ p) (hz : C.size ≤ 65536) (hall : lnAll (@Fp.lnV ⟨K⟩) ps = some sl) {av : AV} {H : List Ob} (ha : plA av = .p (.one (.v (.string C)))) (hr : RL (.row insT sl) (H.headD (.row insT []))) (hH : H.length = 1) :
    RowG (sumT [.any] false [.c .s] [] (@Fp.F_lines ⟨K⟩)) ⟨[av], [], .c (.h 0), H⟩ := by
  letI : Inhabited Fp.LK := ⟨K⟩
  obtain ⟨o, rfl⟩ : ∃ o, H = [o] := by
    match H, hH with
    | [o], _ => exact ⟨o, rfl⟩
  refine ⟨rfl, .c (.h 0), [.row insT sl], ?_, ?_, rfl, rfl, rfl, .cons hr .nil⟩
  · show ((sumT [.any] false [.c .s] [] (@Fp.F_lines ⟨K⟩)).g [plA av] []).run = _
    rw [ha]
    show (ckP (C.size ≤ 65536 ∧ (pv Fp.lnV (C.size + 1) (Fp.txt C) 0 0).isSome = true) (.ret (AV.c (.h 0), [Ob.row insT ((pv Fp.lnV (C.size + 1) (Fp.txt C) 0 0).getD [])]))).run = _
    have hp : pv Fp.lnV (C.size + 1) (Fp.txt C) 0 0 = some sl := by
      rw [hC, txt_B, sub_join (fun p hp => (hs p hp).1), B_size, len_joinC]
      have := pv_pieces Fp.lnV ps [] hne (fun p hp => (hs p hp).2)
      simp only [List.nil_append, List.length_nil] at this
      rw [this]
      exact hall
    rw [hp, ckP_true ⟨hz, rfl⟩]
    rfl
  · show (sumT [.any] false [.c .s] [] (@Fp.F_lines ⟨K⟩)).ck [plA av] [] = true
    rw [ha]; rfl
noncomputable def rReg (k : Int) : Row := ⟨[.c (.y 5003 (.v (.string (B (nb k))))), .c (.w .u8 114#8)], [], .t [.one (.w .u8 0#8), .one (.v (.bool false))], []⟩
noncomputable def rImm (m : Nat) (k : Int) : Row := ⟨[.c (.y 5003 (.v (.string (B (nb k)))))], [], .t [.one (.y m (.v (.int .i32 k))), .one (.v (.bool true))], []⟩
noncomputable def D_reg (k : Int) : Summ := rowsS S_v201 [rReg k]
noncomputable def D_imm (m : Nat) (k : Int) : Summ := rowsS S_v198 [rImm m k]
theorem gReg (k : Int) : RowG (sumT [.any, .any] false [.c .s, .c (.w .u8)] [] Fp.F_reg) (rReg k) := by
  refine ⟨rfl, .t [.one (.w .u8 0#8), .one (.v (.bool false))], [], ?_, rfl, rfl, rfl, rfl, .nil⟩
  show (ckP (∃ k' : Int, B (nb k) = B (nb k') ∧ 57 < (114#8).toNat) (.ret (AV.t [.one (.w .u8 (BitVec.ofInt 8 0)), .one (.v (.bool false))], ([] : List Ob)))).run = _
  rw [ckP_true ⟨k, rfl, by decide⟩]; rfl
theorem gImm (m : Nat) (k : Int) (h1 : -2147483648 ≤ k) (h2 : k ≤ 2147483647) : RowG (sumT [.any] false [.c .s] [] Fp.F_imm) (rImm m k) := by
  refine ⟨rfl, .t [.one (.v (.int .i32 k)), .one (.v (.bool true))], [], ?_, rfl, rfl, rfl, rfl, .nil⟩
  show (ckP (∃ k' : Int, B (nb k) = B (nb k') ∧ -2147483648 ≤ k' ∧ k' ≤ 2147483647) (.ret (AV.t [.one (.v (.int .i32 (rdI (B (nb k))))), .one (.v (.bool true))], ([] : List Ob)))).run = _
  rw [ckP_true ⟨k, rfl, h1, h2⟩, rdI_nb]; rfl
theorem okD_reg (k : Int) : SummOk Kn Tryz.prog 201 (D_reg k) := rows_ok Fp.ok_reg ok_v201 (fun r hr => by rw [List.mem_singleton] at hr; subst hr; exact gReg k)
theorem okD_imm (m : Nat) (k : Int) (h1 : -2147483648 ≤ k) (h2 : k ≤ 2147483647) : SummOk Kn Tryz.prog 198 (D_imm m k) := rows_ok Fp.ok_imm ok_v198 (fun r hr => by rw [List.mem_singleton] at hr; subst hr; exact gImm m k h1 h2)
end Go.Proofs.YtfbldjaepenfpaaGreatDoor
