/-
  A symbolic machine for one call, with rows of any length: variables, stores, copies, new rows.
-/
import Derived.Test.YtoljppjibhnndaaSzN
namespace Go.Sz
open Go Go.RowKit Go.Sy
set_option linter.unusedVariables false
set_option linter.unusedSimpArgs false
set_option linter.constructorNameAsVariable false

section
variable {P : Program} {w0 : World} {S : Nat → Nat → Prop} {R0 : Frag} {D : Nat → Prop} {H Hr : Hf} {F : Frag} {r : Loc} {w : World}

theorem range_put {b o : Nat} {vs us : List Value} (hr : w.rangeAt b o vs) (ht : w.there b o vs.length) {p : Nat} (hp : p + us.length ≤ vs.length) : (w.setCells b (o + p) us).rangeAt b o (vs.take p ++ (us ++ vs.drop (p + us.length))) := by
  intro i v hv
  have hth : w.there b (o + p) us.length := fun q hq => by have := ht (p + q) (by omega); rw [← Nat.add_assoc] at this; exact this
  by_cases h1 : i < p
  · rw [List.getElem?_append_left (by simp; omega), List.getElem?_take, if_pos h1] at hv
    rw [World.cell?_setCells_out b us _ w ⟨b, o + i, none⟩ (fun _ _ => .inl (by simp only []; omega))]
    exact hr i v hv
  · rw [List.getElem?_append_right (by simp; omega)] at hv
    rw [show (List.take p vs).length = p by simp; omega] at hv
    by_cases h2 : i - p < us.length
    · rw [List.getElem?_append_left h2] at hv
      have := World.rangeAt_setCells_same w b (o + p) us hth _ v hv
      rw [← this]; congr 2; omega
    · rw [List.getElem?_append_right (by omega), List.getElem?_drop] at hv
      rw [World.cell?_setCells_out b us _ w ⟨b, o + i, none⟩ (fun _ _ => .inr (by simp only []; omega))]
      have := hr _ v hv
      rw [← this]; congr 2; omega

/-- Cells of an object turn. -/
theorem Mem.setLit (h : Mem w0 S R0 D H F r w) {j : Nat} {l l' : List Cell} (hj : H j = some (.lit l)) {us : List Value} {p : Nat} (hl : l'.length = l.length) (hin : ∀ c ∈ l', c.inn D) (h1 : ∀ v ∈ us, v.oneCell' = true) (hp : p + us.length ≤ l.length)
    (hrep : ∀ vs, cellsRep F r l vs → cellsRep F r l' (vs.take p ++ (us ++ vs.drop (p + us.length)))) : Mem w0 S R0 D (updH [(j, .lit l')] H) F r (w.setCells (r j).b ((r j).o + p) us) := by
  obtain ⟨vs, g1, g2, g3, g4⟩ := h.obs j _ hj
  have hvl := cellsRep_length g1
  have hth : w.there (r j).b ((r j).o + p) us.length := fun q hq => by have := g3 (p + q) (by omega); rw [← Nat.add_assoc] at this; exact this
  refine h.renew hj ⟨_, hrep vs g1, range_put g2 (by rw [hvl]; exact g3) (by omega), by rw [hl]; exact World.there_setCells g3 _ _ _, fun v hv => ?_⟩ hin (fun b o hfo => ?_) ((Fr.setCells w _ _ us hth).mono fun b o _ hh => ?_)
  · rcases List.mem_append.1 hv with hv | hv
    · exact g4 v (List.mem_of_mem_take hv)
    · rcases List.mem_append.1 hv with hv | hv
      · exact h1 v hv
      · exact g4 v (List.mem_of_mem_drop hv)
  · obtain ⟨e, p1, p2⟩ := hfo; exact ⟨e, p1, by rw [hl] at p2; exact p2⟩
  · obtain ⟨rfl, p1, p2⟩ := hh; exact ⟨rfl, by omega, by omega⟩

/-- Cells of a row turn. -/
theorem Mem.setRow (h : Mem w0 S R0 D H F r w) {j : Nat} {ts : Tys} {l l' : List ts.den} (hj : H j = some (.row ts l)) (hne : l ≠ []) {us : List Value} {p : Nat} (hl : l'.length = l.length) (hp : p + us.length ≤ l.length * ts.len)
    (hrep : ∀ G : Frag, (∀ i v, us[i]? = some v → G (r j).b ((r j).o + p + i) = some v) → (∀ q, q < p ∨ p + us.length ≤ q → ∀ v, w.cell? ⟨(r j).b, (r j).o + q, none⟩ = some v → G (r j).b ((r j).o + q) = some v) →
      ∀ i x, l'[i]? = some x → RepC G F (r j).b ((r j).o + i * ts.len) ts x) : Mem w0 S R0 D (updH [(j, .row ts l')] H) F r (w.setCells (r j).b ((r j).o + p) us) := by
  rcases row_nil (h.obs j _ hj) with ⟨_, k2⟩ | ⟨cap, k1, k2, k3, k4⟩
  · exact absurd k2 hne
  · have hmul : l.length * ts.len ≤ cap * ts.len := Nat.mul_le_mul_right _ k2
    have hth : w.there (r j).b ((r j).o + p) us.length := fun q hq => by have := k4 (p + q) (by omega); rw [← Nat.add_assoc] at this; exact this
    refine h.renew hj (.inr ⟨cap, by rw [hl]; exact k1, by rw [hl]; exact k2, k3, World.there_setCells k4 _ _ _, hrep _ (fun i v hv => ?_) (fun q hq v hv => ?_)⟩) trivial (fun b o hfo => ?_) ((Fr.setCells w _ _ us hth).mono fun b o _ hh => ?_)
    · exact World.rangeAt_setCells_same w _ _ us hth i v hv
    · show (w.setCells _ _ us).cell? _ = _
      rw [World.cell?_setCells_out _ us _ w ⟨(r j).b, (r j).o + q, none⟩ (fun _ _ => by simp only []; omega)]
      exact hv
    · exact hfo
    · obtain ⟨rfl, p1, p2⟩ := hh; exact ⟨_, cap, k1, rfl, by omega, by omega⟩

theorem storeAt_run {t : TypeId} {n b o : Nat} (hn : pureSem P (sizeOf t) = some n) {u : Value} {us : List Value} (hu : u.cells = us.toArray) (hl : us.length = n) (h1 : ∀ v ∈ us, v.oneCell' = true) (hth : w.there b o us.length) :
    (Instr.storeAt t (.pointer (some ⟨b, o, none⟩)) u).run P w = .ok () (w.setCells b o us) := by
  have hrun := run_storeCells_cells (P := P) b o us 0 w (fun i hi => by simpa using (hth i hi).1) (fun i hi => by simpa using (hth i hi).2) h1
  simp only [Nat.add_zero] at hrun
  simp only [Instr.storeAt, Instr.sureAddr, Sem.run_bind, Sem.run_pure, Result.andThen_ok, storeVar, pureSem_run hn, hu, List.size_toArray, hl, ne_eq, not_true, if_false]
  exact hrun
end

/-! ### store -/
def notDom (j : Nat) : List (Nat × Ob) → Bool
  | [] => true
  | (k, _) :: l => !(Nat.beq k j) && notDom j l

theorem notDom_spec {j : Nat} {H : Hf} : ∀ {l : List (Nat × Ob)}, notDom j l = true → updH l H j = H j
  | [], _ => rfl
  | (k, ob) :: l, h => by
    simp only [notDom, Bool.and_eq_true, Bool.not_eq_true'] at h
    rw [updH_cons, if_neg (fun e => by subst e; simp at h), notDom_spec h.2]

def storeT (P : Program) (H : Hf) (t : TypeId) (ca : Cell) (q : Part) : Option (List (Nat × Ob)) :=
  match pureSem P (sizeOf t) with
  | some n => bif Nat.beq q.cells.length n && okAll q.cells then match ca with
      | .p j off => match H j with
        | some (.lit l) => bif Nat.ble (off + n) l.length then some [(j, .lit (putR l off q.cells))] else none
        | _ => none
      | .e j base m sz idx off => match H j with
        | some (.lit l) => bif Nat.blt 0 n then match updL idx sz m q.cells (base + off) l with
            | some l' => some [(j, .lit l')]
            | none => none
          else none
        | _ => none
      | .er j sz idx off => match H j with
        | some (.row ts l) => bif Nat.beq sz ts.len && Nat.ble (off + n) ts.len then match deepL H q.cells with
            | some (ds, ups) => bif notDom j ups then match setD ts (l.getD idx ts.dflt) off ds with
                | some y => some ((j, .row ts (l.set idx y)) :: ups)
                | none => none
              else none
            | none => none
          else none
        | _ => none
      | _ => none
    else none
  | none => none

section
variable {P : Program} {w0 : World} {S : Nat → Nat → Prop} {R0 : Frag} {D : Nat → Prop} {H Hr : Hf} {F : Frag} {r : Loc} {w : World}

theorem storeT_run (hs : ∀ j ob, Hr j = some ob → H j = some ob) (hm : Mem w0 S R0 D H F r w) {t : TypeId} {ca : Cell} {q : Part} {ups : List (Nat × Ob)} (h : storeT P Hr t ca q = some ups)
    {a u : Value} (ha : ca.rep F r a) (hu : q.rep F r u) (hq : q.inn D) :
    ∃ w' F', (Instr.storeAt t a u).run P w = .ok () w' ∧ F.le F' ∧ Mem w0 S R0 D (updH ups H) F' r w' := by
  unfold storeT at h
  split at h
  · rename_i n hn
    cases hb : (Nat.beq q.cells.length n && okAll q.cells) with
    | false => rw [hb] at h; cases h
    | true =>
      rw [hb] at h
      simp only [cond_true] at h
      simp only [Bool.and_eq_true] at hb
      have hqn := Nat.eq_of_beq_eq_true hb.1
      obtain ⟨us, hus, hur, hu1⟩ := Part.cells_rep hb.2 hu
      have hul := cellsRep_length hur
      have hqi := Part.cells_inn hq
      split at h
      · rename_i j off
        split at h
        · rename_i l hj
          cases hle : Nat.ble (off + n) l.length with
          | false => rw [hle] at h; cases h
          | true =>
            rw [hle] at h
            simp only [cond_true, Option.some.injEq] at h; subst h
            have hle := Nat.le_of_ble_eq_true hle
            have hj' := hs _ _ hj
            obtain ⟨vs, g1, g2, g3, g4⟩ := hm.obs j _ hj'
            have hth : w.there (r j).b ((r j).o + off) us.length := fun i hi => by have := g3 (off + i) (by omega); rw [← Nat.add_assoc] at this; exact this
            rw [show a = _ from ha]
            refine ⟨_, F, storeAt_run hn hus (by omega) hu1 hth, Frag.le_refl F, hm.setLit hj' (putR_length (by omega)) (fun c hc => ?_) hu1 (by omega) (fun vs' hv' => putR_rep hv' hur)⟩
            rcases putR_mem hc with hc | hc
            · exact hm.scp j _ hj' c hc
            · exact hqi c hc
        · cases h
      · rename_i j base m sz idx off
        obtain ⟨rfl, hi⟩ := ha
        split at h
        · rename_i l hj
          cases hn0 : Nat.blt 0 n with
          | false => rw [hn0] at h; cases h
          | true =>
            rw [hn0] at h
            simp only [cond_true] at h
            have hn0 : 0 < n := Nat.le_of_ble_eq_true hn0
            split at h
            · rename_i l' hl'
              injection h with h; subst h
              have hj' := hs _ _ hj
              obtain ⟨vs, g1, g2, g3, g4⟩ := hm.obs j _ hj'
              obtain ⟨k1, k2, k3, k4⟩ := updL_spec hi hl' hur hqi g1 (hm.scp j _ hj')
              have k3 := k3 (by intro e; rw [e] at hqn; simp at hqn; omega)
              have hpos : (r j).o + (base + idx * sz + off) = (r j).o + (base + off + idx * sz) := by omega
              have hth : w.there (r j).b ((r j).o + (base + off + idx * sz)) us.length := fun i hi => by have := g3 (base + off + idx * sz + i) (by omega); rw [← Nat.add_assoc] at this; exact this
              rw [hpos]
              refine ⟨_, F, storeAt_run hn hus (by omega) hu1 hth, Frag.le_refl F, hm.setLit hj' k1 k2 hu1 (by omega) (fun vs' hv' => ?_)⟩
              obtain ⟨_, _, _, k4'⟩ := updL_spec hi hl' hur hqi hv' (hm.scp j _ hj')
              rw [setsV_spec _ _ _ (by rw [cellsRep_length hv']; omega)] at k4'
              exact k4'
            · cases h
        · cases h
      · rename_i j sz idx off
        obtain ⟨rfl, a0, n0, cap0, hv0, hi⟩ := ha
        split at h
        · rename_i ts l hj
          cases hc : (Nat.beq sz ts.len && Nat.ble (off + n) ts.len) with
          | false => rw [hc] at h; cases h
          | true =>
            rw [hc] at h
            simp only [cond_true] at h
            simp only [Bool.and_eq_true] at hc
            have hsz := Nat.eq_of_beq_eq_true hc.1
            have hle := Nat.le_of_ble_eq_true hc.2
            subst hsz
            split at h
            · rename_i ds ups' hds
              cases hnd : notDom j ups' with
              | false => rw [hnd] at h; cases h
              | true =>
                rw [hnd] at h
                simp only [cond_true] at h
                split at h
                · rename_i y hy
                  injection h with h; subst h
                  obtain ⟨F', f1, f2, f3, f5, f4⟩ := deepL_spec hs hm hds hqi
                  have hj' : updH ups' H j = some (.row ts l) := by rw [notDom_spec hnd]; exact hs _ _ hj
                  have hur' := f4 us hur
                  have hil : idx < l.length := by
                    rcases row_nil (f2.obs j _ hj') with ⟨k1, k2⟩ | ⟨cap, k1, _⟩
                    · rw [k1] at hv0; injection hv0 with _ hv0 _; omega
                    · rw [k1] at hv0; injection hv0 with _ hv0 _; omega
                  have hne : l ≠ [] := fun e => by subst e; simp at hil
                  have hcov : idx * ts.len + off + us.length ≤ l.length * ts.len := by
                    have : (idx + 1) * ts.len ≤ l.length * ts.len := Nat.mul_le_mul_right _ hil
                    rw [Nat.add_mul] at this; omega
                  have hth : w.there (r j).b ((r j).o + (idx * ts.len + off)) us.length := by
                    obtain ⟨cap, k1, k2, k3, k4, _⟩ := row_hdr (f2.obs j _ hj') hil
                    have hmul : l.length * ts.len ≤ cap * ts.len := Nat.mul_le_mul_right _ k2
                    intro i hi'
                    have := k4 (idx * ts.len + off + i) (by omega)
                    rw [← Nat.add_assoc] at this; exact this
                  obtain ⟨_, s2⟩ := setD_spec hy hur' (.inl (by omega))
                  obtain ⟨cap, k1, k2, k3, k4, k5⟩ := row_hdr (f2.obs j _ hj') hil
                  refine ⟨_, F', storeAt_run hn hus (by omega) hu1 hth, f1, ?_⟩
                  have := f2.setRow (us := us) (p := idx * ts.len + off) (l' := l.set idx y) hj' hne (by simp) hcov (fun G hG1 hG2 i x hx => ?_)
                  · rw [← updH_append] at this; exact this
                  · by_cases hii : i = idx
                    · subst hii
                      rw [List.getElem?_set_self hil] at hx
                      injection hx with hx; subst hx
                      refine s2 (k5 i _ (getD_get hil _)) (fun p v hv => ?_) (fun p hp hor v hv => ?_)
                      · have := hG1 p v hv
                        rw [← this]; congr 1; omega
                      · have := hG2 (i * ts.len + p) (by omega) v (by rw [← Nat.add_assoc]; exact hv)
                        rw [← Nat.add_assoc] at this; exact this
                    · rw [List.getElem?_set_ne (Ne.symm hii)] at hx
                      refine RepC.congr (Frag.le_refl F') (fun p hp v hv => ?_) (k5 i x hx)
                      have hil' : i < l.length := (List.getElem?_eq_some_iff.1 hx).1
                      have := hG2 (i * ts.len + p) ?_ v (by rw [← Nat.add_assoc]; exact hv)
                      · rw [← Nat.add_assoc] at this; exact this
                      · rcases Nat.lt_or_gt_of_ne hii with hlt | hlt
                        · have : (i + 1) * ts.len ≤ idx * ts.len := Nat.mul_le_mul_right _ hlt
                          rw [Nat.add_mul] at this; omega
                        · have : (idx + 1) * ts.len ≤ i * ts.len := Nat.mul_le_mul_right _ hlt
                          rw [Nat.add_mul] at this; omega
                · cases h
            · cases h
        · cases h
      · cases h
  · cases h
end
end Go.Sz
