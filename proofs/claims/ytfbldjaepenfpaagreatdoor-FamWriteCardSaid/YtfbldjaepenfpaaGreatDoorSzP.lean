/-
  A symbolic machine for one call, with rows of any length: variables, stores, copies, new rows.
  A symbolic machine for one call, with rows of any length: copy, make, composite slices, bytes and strings.
-/
import Derived.Test.YtfbldjaepenfpaaGreatDoorSzN
noncomputable section
namespace Go.Sz
open Go Go.RowKit Go.Sy
set_option linter.unusedVariables false
set_option linter.unusedSimpArgs false
set_option linter.constructorNameAsVariable false
section
variable {P : Program} {w0 : World} {S : Nat → Nat → Prop} {R0 : Frag} {D : Nat → Prop} {H Hr : Hf} {F : Frag} {r : Loc} {w : World}
theorem range_put {b o : Nat} {vs us : List Value} (hr : w.rangeAt b o vs) (ht : w.there b o vs.length) {p : Nat} (hp : p + us.length ≤ vs.length) : (w.setCells b (o + p) us).rangeAt b o (vs.take p ++ (us ++ vs.drop (p + us.length))) := by
  intro i v hv
  have hth : w.there b (o + p) us.length := fun q hq => by have := ht (p + q) (by omega); rw [← Nat.add_assoc] at this; exact this
  by_cases h1 : i < p
  · rw [List.getElem?_append_left (by simp; omega), List.getElem?_take, if_pos h1] at hv
    rw [World.cell?_setCells_out b us _ w ⟨b, o + i, none⟩ (fun _ _ => .inl (by simp only []; omega))]
    exact hr i v hv
  · rw [List.getElem?_append_right (by simp; omega)] at hv
    rw [show (List.take p vs).length = p by simp; omega] at hv
    by_cases h2 : i - p < us.length
    · rw [List.getElem?_append_left h2] at hv
      have := World.rangeAt_setCells_same w b (o + p) us hth _ v hv
      rw [← this]; congr 2; omega
    · rw [List.getElem?_append_right (by omega), List.getElem?_drop] at hv
      rw [World.cell?_setCells_out b us _ w ⟨b, o + i, none⟩ (fun _ _ => .inr (by simp only []; omega))]
      have := hr _ v hv
      rw [← this]; congr 2; omega
theorem Mem.setLit (h : Mem w0 S R0 D H F r w) {j : Nat} {l l' : List Cell} (hj : H j = some (.lit l)) {us : List Value} {p : Nat} (hl : l'.length = l.length) (hin : ∀ c ∈ l', c.inn D) (h1 : ∀ v ∈ us, v.oneCell' = true) (hp : p + us.length ≤ l.length)
    (hrep : ∀ vs, cellsRep F r l vs → cellsRep F r l' (vs.take p ++ (us ++ vs.drop (p + us.length)))) : Mem w0 S R0 D (updH [(j, .lit l')] H) F r (w.setCells (r j).b ((r j).o + p) us) := by
  obtain ⟨vs, g1, g2, g3, g4⟩ := h.obs j _ hj
  have hvl := cellsRep_length g1
  have hth : w.there (r j).b ((r j).o + p) us.length := fun q hq => by have := g3 (p + q) (by omega); rw [← Nat.add_assoc] at this; exact this
  refine h.renew hj ⟨_, hrep vs g1, range_put g2 (by rw [hvl]; exact g3) (by omega), by rw [hl]; exact World.there_setCells g3 _ _ _, fun v hv => ?_⟩ hin (fun b o hfo => ?_) ((Fr.setCells w _ _ us hth).mono fun b o _ hh => ?_)
  · rcases List.mem_append.1 hv with hv | hv
    · exact g4 v (List.mem_of_mem_take hv)
    · rcases List.mem_append.1 hv with hv | hv
      · exact h1 v hv
      · exact g4 v (List.mem_of_mem_drop hv)
  · obtain ⟨e, p1, p2⟩ := hfo; exact ⟨e, p1, by rw [hl] at p2; exact p2⟩
  · obtain ⟨rfl, p1, p2⟩ := hh; exact ⟨rfl, by omega, by omega⟩
theorem Mem.setRow (h : Mem w0 S R0 D H F r w) {j : Nat} {ts : Tys} {l l' : List ts.den} (hj : H j = some (.row ts l)) (hne : l ≠ []) {us : List Value} {p : Nat} (hl : l'.length = l.length) (hp : p + us.length ≤ l.length * ts.len)
    (hrep : ∀ G : Frag, (∀ i v, us[i]? = some v → G (r j).b ((r j).o + p + i) = some v) → (∀ q, q < p ∨ p + us.length ≤ q → ∀ v, w.cell? ⟨(r j).b, (r j).o + q, none⟩ = some v → G (r j).b ((r j).o + q) = some v) →
      ∀ i x, l'[i]? = some x → RepC G F (r j).b ((r j).o + i * ts.len) ts x) : Mem w0 S R0 D (updH [(j, .row ts l')] H) F r (w.setCells (r j).b ((r j).o + p) us) := by
  rcases row_nil (h.obs j _ hj) with ⟨_, k2⟩ | ⟨cap, k1, k2, k3, k4⟩
  · exact absurd k2 hne
  · have hmul : l.length * ts.len ≤ cap * ts.len := Nat.mul_le_mul_right _ k2
    have hth : w.there (r j).b ((r j).o + p) us.length := fun q hq => by have := k4 (p + q) (by omega); rw [← Nat.add_assoc] at this; exact this
    refine h.renew hj (.inr ⟨cap, by rw [hl]; exact k1, by rw [hl]; exact k2, k3, World.there_setCells k4 _ _ _, hrep _ (fun i v hv => ?_) (fun q hq v hv => ?_)⟩) trivial (fun b o hfo => ?_) ((Fr.setCells w _ _ us hth).mono fun b o _ hh => ?_)
    · exact World.rangeAt_setCells_same w _ _ us hth i v hv
    · show (w.setCells _ _ us).cell? _ = _
      rw [World.cell?_setCells_out _ us _ w ⟨(r j).b, (r j).o + q, none⟩ (fun _ _ => by simp only []; omega)]
      exact hv
    · exact hfo
    · obtain ⟨rfl, p1, p2⟩ := hh; exact ⟨_, cap, k1, rfl, by omega, by omega⟩
theorem storeAt_run {t : TypeId} {n b o : Nat} (hn : pureSem P (sizeOf t) = some n) {u : Value} {us : List Value} (hu : u.cells = us.toArray) (hl : us.length = n) (h1 : ∀ v ∈ us, v.oneCell' = true) (hth : w.there b o us.length) :
    (Instr.storeAt t (.pointer (some ⟨b, o, none⟩)) u).run P w = .ok () (w.setCells b o us) := by
  have hrun := run_storeCells_cells (P := P) b o us 0 w (fun i hi => by simpa using (hth i hi).1) (fun i hi => by simpa using (hth i hi).2) h1
  simp only [Nat.add_zero] at hrun
  simp only [Instr.storeAt, Instr.sureAddr, Sem.run_bind, Sem.run_pure, Result.andThen_ok, storeVar, pureSem_run hn, hu, List.size_toArray, hl, ne_eq, not_true, if_false]
  exact hrun
end
/-! ### store -/
def notDom (j : Nat) : List (Nat × Ob) → Bool
  | [] => true
  | (k, _) :: l => !(Nat.beq k j) && notDom j l
theorem notDom_spec {j : Nat} {H : Hf} : ∀ {l : List (Nat × Ob)}, notDom j l = true → updH l H j = H j
  | [], _ => rfl
  | (k, ob) :: l, h => by
    simp only [notDom, Bool.and_eq_true, Bool.not_eq_true'] at h
    rw [updH_cons, if_neg (fun e => by subst e; simp at h), notDom_spec h.2]
def storeT (P : Program) (H : Hf) (t : TypeId) (ca : Cell) (q : Part) : Option (List (Nat × Ob)) :=
  match pureSem P (sizeOf t) with
  | some n => bif Nat.beq q.cells.length n && okAll q.cells then match ca with
      | .p j off => match H j with
        | some (.lit l) => bif Nat.ble (off + n) l.length then some [(j, .lit (putR l off q.cells))] else none
        | _ => none
      | .e j base m sz idx off => match H j with
        | some (.lit l) => bif Nat.blt 0 n then match updL idx sz m q.cells (base + off) l with
            | some l' => some [(j, .lit l')]
            | none => none
          else none
        | _ => none
      | .er j sz idx off => match H j with
        | some (.row ts l) => bif Nat.beq sz ts.len && Nat.ble (off + n) ts.len then match deepL H q.cells with
            | some (ds, ups) => bif notDom j ups then match setD ts (l.getD idx ts.dflt) off ds with
                | some y => some ((j, .row ts (l.set idx y)) :: ups)
                | none => none
              else none
            | none => none
          else none
        | _ => none
      | _ => none
    else none
  | none => none
section
variable {P : Program} {w0 : World} {S : Nat → Nat → Prop} {R0 : Frag} {D : Nat → Prop} {H Hr : Hf} {F : Frag} {r : Loc} {w : World}
theorem storeT_run (hs : ∀ j ob, Hr j = some ob → H j = some ob) (hm : Mem w0 S R0 D H F r w) {t : TypeId} {ca : Cell} {q : Part} {ups : List (Nat × Ob)} (h : storeT P Hr t ca q = some ups)
    {a u : Value} (ha : ca.rep F r a) (hu : q.rep F r u) (hq : q.inn D) :
    ∃ w' F', (Instr.storeAt t a u).run P w = .ok () w' ∧ F.le F' ∧ Mem w0 S R0 D (updH ups H) F' r w' := by
  unfold storeT at h
  split at h
  · rename_i n hn
    cases hb : (Nat.beq q.cells.length n && okAll q.cells) with
    | false => rw [hb] at h; cases h
    | true =>
      rw [hb] at h
      simp only [cond_true] at h
      simp only [Bool.and_eq_true] at hb
      have hqn := Nat.eq_of_beq_eq_true hb.1
      obtain ⟨us, hus, hur, hu1⟩ := Part.cells_rep hb.2 hu
      have hul := cellsRep_length hur
      have hqi := Part.cells_inn hq
      split at h
      · rename_i j off
        split at h
        · rename_i l hj
          cases hle : Nat.ble (off + n) l.length with
          | false => rw [hle] at h; cases h
          | true =>
            rw [hle] at h
            simp only [cond_true, Option.some.injEq] at h; subst h
            have hle := Nat.le_of_ble_eq_true hle
            have hj' := hs _ _ hj
            obtain ⟨vs, g1, g2, g3, g4⟩ := hm.obs j _ hj'
            have hth : w.there (r j).b ((r j).o + off) us.length := fun i hi => by have := g3 (off + i) (by omega); rw [← Nat.add_assoc] at this; exact this
            rw [show a = _ from ha]
            refine ⟨_, F, storeAt_run hn hus (by omega) hu1 hth, Frag.le_refl F, hm.setLit hj' (putR_length (by omega)) (fun c hc => ?_) hu1 (by omega) (fun vs' hv' => putR_rep hv' hur)⟩
            rcases putR_mem hc with hc | hc
            · exact hm.scp j _ hj' c hc
            · exact hqi c hc
        · cases h
      · rename_i j base m sz idx off
        obtain ⟨rfl, hi⟩ := ha
        split at h
        · rename_i l hj
          cases hn0 : Nat.blt 0 n with
          | false => rw [hn0] at h; cases h
          | true =>
            rw [hn0] at h
            simp only [cond_true] at h
            have hn0 : 0 < n := Nat.le_of_ble_eq_true hn0
            split at h
            · rename_i l' hl'
              injection h with h; subst h
              have hj' := hs _ _ hj
              obtain ⟨vs, g1, g2, g3, g4⟩ := hm.obs j _ hj'
              obtain ⟨k1, k2, k3, k4⟩ := updL_spec hi hl' hur hqi g1 (hm.scp j _ hj')
              have k3 := k3 (by intro e; rw [e] at hqn; simp at hqn; omega)
              have hpos : (r j).o + (base + idx * sz + off) = (r j).o + (base + off + idx * sz) := by omega
              have hth : w.there (r j).b ((r j).o + (base + off + idx * sz)) us.length := fun i hi => by have := g3 (base + off + idx * sz + i) (by omega); rw [← Nat.add_assoc] at this; exact this
              rw [hpos]
              refine ⟨_, F, storeAt_run hn hus (by omega) hu1 hth, Frag.le_refl F, hm.setLit hj' k1 k2 hu1 (by omega) (fun vs' hv' => ?_)⟩
              obtain ⟨_, _, _, k4'⟩ := updL_spec hi hl' hur hqi hv' (hm.scp j _ hj')
              rw [setsV_spec _ _ _ (by rw [cellsRep_length hv']; omega)] at k4'
              exact k4'
            · cases h
        · cases h
      · rename_i j sz idx off
        obtain ⟨rfl, a0, n0, cap0, hv0, hi⟩ := ha
        split at h
        · rename_i ts l hj
          cases hc : (Nat.beq sz ts.len && Nat.ble (off + n) ts.len) with
          | false => rw [hc] at h; cases h
          | true =>
            rw [hc] at h
            simp only [cond_true] at h
            simp only [Bool.and_eq_true] at hc
            have hsz := Nat.eq_of_beq_eq_true hc.1
            have hle := Nat.le_of_ble_eq_true hc.2
            subst hsz
            split at h
            · rename_i ds ups' hds
              cases hnd : notDom j ups' with
              | false => rw [hnd] at h; cases h
              | true =>
                rw [hnd] at h
                simp only [cond_true] at h
                split at h
                · rename_i y hy
                  injection h with h; subst h
                  obtain ⟨F', f1, f2, f3, f5, f4⟩ := deepL_spec hs hm hds hqi
                  have hj' : updH ups' H j = some (.row ts l) := by rw [notDom_spec hnd]; exact hs _ _ hj
                  have hur' := f4 us hur
                  have hil : idx < l.length := by
                    rcases row_nil (f2.obs j _ hj') with ⟨k1, k2⟩ | ⟨cap, k1, _⟩
                    · rw [k1] at hv0; injection hv0 with _ hv0 _; omega
                    · rw [k1] at hv0; injection hv0 with _ hv0 _; omega
                  have hne : l ≠ [] := fun e => by subst e; simp at hil
                  have hcov : idx * ts.len + off + us.length ≤ l.length * ts.len := by
                    have : (idx + 1) * ts.len ≤ l.length * ts.len := Nat.mul_le_mul_right _ hil
                    rw [Nat.add_mul] at this; omega
                  have hth : w.there (r j).b ((r j).o + (idx * ts.len + off)) us.length := by
                    obtain ⟨cap, k1, k2, k3, k4, _⟩ := row_hdr (f2.obs j _ hj') hil
                    have hmul : l.length * ts.len ≤ cap * ts.len := Nat.mul_le_mul_right _ k2
                    intro i hi'
                    have := k4 (idx * ts.len + off + i) (by omega)
                    rw [← Nat.add_assoc] at this; exact this
                  obtain ⟨_, s2⟩ := setD_spec hy hur' (.inl (by omega))
                  obtain ⟨cap, k1, k2, k3, k4, k5⟩ := row_hdr (f2.obs j _ hj') hil
                  refine ⟨_, F', storeAt_run hn hus (by omega) hu1 hth, f1, ?_⟩
                  have := f2.setRow (us := us) (p := idx * ts.len + off) (l' := l.set idx y) hj' hne (by simp) hcov (fun G hG1 hG2 i x hx => ?_)
                  · rw [← updH_append] at this; exact this
                  · by_cases hii : i = idx
                    · subst hii
                      rw [List.getElem?_set_self hil] at hx
                      injection hx with hx; subst hx
                      refine s2 (k5 i _ (getD_get hil _)) (fun p v hv => ?_) (fun p hp hor v hv => ?_)
                      · have := hG1 p v hv
                        rw [← this]; congr 1; omega
                      · have := hG2 (i * ts.len + p) (by omega) v (by rw [← Nat.add_assoc]; exact hv)
                        rw [← Nat.add_assoc] at this; exact this
                    · rw [List.getElem?_set_ne (Ne.symm hii)] at hx
                      refine RepC.congr (Frag.le_refl F') (fun p hp v hv => ?_) (k5 i x hx)
                      have hil' : i < l.length := (List.getElem?_eq_some_iff.1 hx).1
                      have := hG2 (i * ts.len + p) ?_ v (by rw [← Nat.add_assoc]; exact hv)
                      · rw [← Nat.add_assoc] at this; exact this
                      · rcases Nat.lt_or_gt_of_ne hii with hlt | hlt
                        · have : (i + 1) * ts.len ≤ idx * ts.len := Nat.mul_le_mul_right _ hlt
                          rw [Nat.add_mul] at this; omega
                        · have : (idx + 1) * ts.len ≤ i * ts.len := Nat.mul_le_mul_right _ hlt
                          rw [Nat.add_mul] at this; omega
                · cases h
            · cases h
        · cases h
      · cases h
  · cases h
end
end Go.Sz
namespace Go.Sz
open Go Go.RowKit Go.Sy
set_option linter.unusedVariables false
set_option linter.unusedSimpArgs false
set_option linter.constructorNameAsVariable false
/-! ### copy -/
def copyL {α : Type} (l xs : List α) : List α := xs.take l.length ++ l.drop xs.length
theorem copyL_length {α : Type} (l xs : List α) : (copyL l xs).length = l.length := by simp [copyL]; omega
theorem copy_run {P : Program} (w : World) (dT sT ty elem : TypeId) (i : TypeInfo) (hu : P.underlying dT = some (.slice elem)) (hi : P.info? elem = some i) (b o dLen dCap m : Nat) (x : Value) (vs : List Value)
    (hx : Reads P w i.size m x vs) (h1 : ∀ v ∈ vs, v.oneCell' = true) (hth : w.there b o (dLen * i.size)) :
    (Builtin.copy_ #[dT, sT] ty #[.slice (some ⟨b, o, none⟩) dLen dCap, x]).run P w = .ok (goInt (Nat.min m dLen)) (w.setCells b o (vs.take (Nat.min m dLen * i.size))) := by
  have hl := hx.1
  have hf := hx.2.2 (Nat.min m dLen) (Nat.min_le_left _ _) w rfl
  have hmin : Nat.min m dLen ≤ dLen := Nat.min_le_right _ _
  have hmul : Nat.min m dLen * i.size ≤ dLen * i.size := Nat.mul_le_mul_right _ hmin
  have hlt : ∀ j, j < (vs.take (Nat.min m dLen * i.size)).length → j < dLen * i.size := fun j hj => by
    rw [List.length_take] at hj
    have := Nat.lt_of_lt_of_le hj (Nat.min_le_left _ _)
    omega
  have hst := run_storeCells_cells (P := P) b o (vs.take (Nat.min m dLen * i.size)) 0 w (fun j hj => by simpa using (hth j (hlt j hj)).1) (fun j hj => by simpa using (hth j (hlt j hj)).2) (fun v hv => h1 v (List.mem_of_mem_take hv))
  simp only [Nat.add_zero] at hst
  simp only [Builtin.copy_, List.getElem?_toArray, List.getElem?_cons_zero, List.getElem?_cons_succ, Sem.run_bind, run_underlying hu, Result.andThen_ok, hl, Sem.run_pure, sizeOf, typeInfo]
  simp [hi, hf, hst]
theorem copy_none {P : Program} (w : World) (dT sT ty elem : TypeId) (i : TypeInfo) (hu : P.underlying dT = some (.slice elem)) (hi : P.info? elem = some i) (m : Nat) (x : Value) (vs : List Value) (hx : Reads P w i.size m x vs) :
    (Builtin.copy_ #[dT, sT] ty #[.slice none 0 0, x]).run P w = .ok (goInt 0) w := by
  have hl := hx.1
  have hf := hx.2.2 0 (Nat.zero_le _) w rfl
  simp only [Builtin.copy_, List.getElem?_toArray, List.getElem?_cons_zero, List.getElem?_cons_succ, Sem.run_bind, run_underlying hu, Result.andThen_ok, hl, Sem.run_pure, sizeOf, typeInfo]
  simp [hi, hf]
def mergeAll (b : Bool) : List Cell → Nat → List Cell → Option (List Cell)
  | [], _, l => some l
  | c :: cs, pos, l => match nth l pos with
    | some old => match mergeC b c old with
      | some z => mergeAll b cs (pos + 1) (setNth l pos z)
      | none => none
    | none => none
theorem mergeAll_spec {b : Bool} : ∀ {cs : List Cell} {pos : Nat} {l l' : List Cell}, mergeAll b cs pos l = some l' → l'.length = l.length ∧ (cs ≠ [] → pos + cs.length ≤ l.length) ∧ ∀ (p : Nat) (c : Cell), l'[p]? = some c →
    (p < pos ∨ pos + cs.length ≤ p → l[p]? = some c) ∧ (pos ≤ p → p < pos + cs.length → ∃ old new, l[p]? = some old ∧ cs[p - pos]? = some new ∧ mergeC b new old = some c)
  | [], pos, l, l', h => by
    simp only [mergeAll, Option.some.injEq] at h; subst h
    exact ⟨rfl, fun h => absurd rfl h, fun p c hc => ⟨fun _ => hc, fun h1 h2 => by simp at h2; omega⟩⟩
  | x :: cs, pos, l, l', h => by
    simp only [mergeAll] at h
    split at h
    · rename_i old hold
      rw [nth_eq] at hold
      split at h
      · rename_i z hz
        rw [setNth_eq] at h
        have hpl : pos < l.length := (List.getElem?_eq_some_iff.1 hold).1
        obtain ⟨g1, g2, g3⟩ := mergeAll_spec h
        refine ⟨by rw [g1]; simp, fun _ => ?_, fun p c hc => ?_⟩
        · cases cs with
          | nil => simp; omega
          | cons a t => have := g2 (by simp); simp at this ⊢; omega
        · obtain ⟨k1, k2⟩ := g3 p c hc
          refine ⟨fun hor => ?_, fun h1 h2 => ?_⟩
          · simp only [List.length_cons] at hor
            have := k1 (by omega)
            rw [List.getElem?_set, if_neg (by omega)] at this
            exact this
          · simp only [List.length_cons] at h2
            by_cases hp : p = pos
            · subst hp
              have := k1 (by omega)
              rw [List.getElem?_set, if_pos rfl, if_pos hpl] at this
              injection this with this; subst this
              exact ⟨old, x, hold, by simp, hz⟩
            · obtain ⟨o, n, j1, j2, j3⟩ := k2 (by omega) (by omega)
              rw [List.getElem?_set, if_neg (by omega)] at j1
              refine ⟨o, n, j1, ?_, j3⟩
              rw [show p - pos = (p - (pos + 1)) + 1 by omega, List.getElem?_cons_succ]; exact j2
      · cases h
    · cases h
def copyLit (ts : Tys) (xs : List ts.den) : Nat → Nat → Nat → List Cell → Option (List Cell)
  | 0, _, _, l => some l
  | n + 1, i, pos, l => match mergeAll (Nat.blt i xs.length) (cellsOf ts (xs.getD i ts.dflt)) pos l with
    | some l' => copyLit ts xs n (i + 1) (pos + ts.len) l'
    | none => none
theorem copyLit_spec {ts : Tys} {xs : List ts.den} : ∀ {n i pos : Nat} {l l' : List Cell}, copyLit ts xs n i pos l = some l' → 0 < ts.len → l'.length = l.length ∧ (0 < n → pos + n * ts.len ≤ l.length) ∧ ∀ (p : Nat) (c : Cell), l'[p]? = some c →
    (p < pos ∨ pos + n * ts.len ≤ p → l[p]? = some c) ∧ ∀ q k, q < n → k < ts.len → p = pos + q * ts.len + k → ∃ old new, l[p]? = some old ∧ (cellsOf ts (xs.getD (i + q) ts.dflt))[k]? = some new ∧ mergeC (Nat.blt (i + q) xs.length) new old = some c
  | 0, i, pos, l, l', h, _ => by
    simp only [copyLit, Option.some.injEq] at h; subst h
    exact ⟨rfl, fun h => absurd h (Nat.lt_irrefl 0), fun p c hc => ⟨fun _ => hc, fun q k hq => by omega⟩⟩
  | n + 1, i, pos, l, l', h, hpos => by
    simp only [copyLit] at h
    split at h
    · rename_i l1 hl1
      obtain ⟨a1, a2, a3⟩ := mergeAll_spec hl1
      have hcl := cellsOf_length ts (xs.getD i ts.dflt)
      have a2 := a2 (by intro e; rw [e] at hcl; simp at hcl; omega)
      rw [hcl] at a2 a3
      obtain ⟨g1, g2, g3⟩ := copyLit_spec h hpos
      have hmul : (n + 1) * ts.len = n * ts.len + ts.len := by rw [Nat.add_mul, Nat.one_mul]
      refine ⟨by rw [g1, a1], fun _ => ?_, fun p c hc => ?_⟩
      · cases n with
        | zero => simp; omega
        | succ n => have := g2 (by omega); rw [a1] at this; omega
      · obtain ⟨k1, k2⟩ := g3 p c hc
        refine ⟨fun hor => ?_, fun q k hq hk hp => ?_⟩
        · exact (a3 p c (k1 (by omega))).1 (by omega)
        · cases q with
          | zero =>
            have h0 : l1[p]? = some c := k1 (by omega)
            obtain ⟨o, nw, j1, j2, j3⟩ := (a3 p c h0).2 (by omega) (by omega)
            refine ⟨o, nw, j1, ?_, by simpa using j3⟩
            rw [Nat.add_zero, ← j2]; congr 1; omega
          | succ q =>
            have hq' : (q + 1) * ts.len = q * ts.len + ts.len := by rw [Nat.add_mul, Nat.one_mul]
            obtain ⟨o, nw, j1, j2, j3⟩ := k2 q k (by omega) hk (by omega)
            have h1p : pos + ts.len ≤ p := by omega
            have := (a3 p o j1).1 (.inr h1p)
            refine ⟨o, nw, this, ?_, ?_⟩
            · rw [show i + (q + 1) = i + 1 + q by omega]; exact j2
            · rw [show i + (q + 1) = i + 1 + q by omega]; exact j3
    · cases h
section
variable {P : Program} {w0 : World} {S : Nat → Nat → Prop} {R0 : Frag} {D : Nat → Prop} {H Hr : Hf} {F : Frag} {r : Loc} {w : World}
def copyT (P : Program) (H : Hf) (tys : List TypeId) (c1 c2 : Cell) : Tree Eff :=
  match tys with
  | [t1, _] => match P.underlying t1 with
    | some (.slice e) => match P.info? e, c1 with
      | some i, .h j => match H j with
        | some (.row ts l) => bif Nat.beq i.size ts.len then (contT H ts c2).bind fun xs => .ret ⟨some (AV.c (.v (.int .i64 (Nat.min xs.length l.length)))), [(j, .row ts (copyL l xs))], 0⟩ else .fail
        | _ => .fail
      | some i, .s j off sz n cap => match H j, flatT P 12 e with
        | some (.lit l), some ts => bif Nat.beq i.size ts.len && (Nat.beq sz ts.len && (Nat.blt 0 ts.len && Nat.ble n cap)) then (contT H ts c2).bind fun xs => match copyLit ts xs n 0 off l with
            | some l' => .ret ⟨some (AV.c (.v (.int .i64 (Nat.min xs.length n)))), [(j, .lit l')], 0⟩
            | none => .fail
          else .fail
        | _, _ => .fail
      | _, _ => .fail
    | _ => .fail
  | _ => .fail
theorem after_same {nx : Nat} {eff : Eff} {w' : World} {v : Value} (hn : eff.nn = 0) (hm : Mem w0 S R0 D (updH eff.ups H) F r w') (hres : ∀ av, eff.res = some av → av.rep F r v ∧ av.inn D) : After w0 S R0 D H F r nx eff F r w' v :=
  ⟨fun _ _ => rfl, Frag.le_refl F, hm.monoD fun j h => .inl h, fun av hav => ⟨(hres av hav).1, AV.inn_mono (fun j h => .inl h) (hres av hav).2⟩⟩
theorem copyT_run (hs : ∀ j ob, Hr j = some ob → H j = some ob) (hm : Mem w0 S R0 D H F r w) {nx : Nat} {tys : Array TypeId} {c1 c2 : Cell} {eff : Eff}
    (h : (copyT P Hr tys.toList c1 c2).run = some eff) {u1 u2 : Value} (hu1 : c1.rep F r u1) (hu2 : c2.rep F r u2) (ty : TypeId) :
    ∃ v w', (Builtin.copy_ tys ty #[u1, u2]).run P w = .ok v w' ∧ After w0 S R0 D H F r nx eff F r w' v := by
  have hsees := hm.sees.sub hs
  unfold copyT at h
  split at h
  · rename_i t1 t2 hty
    have hty' : tys = #[t1, t2] := by apply Array.ext'; rw [hty]
    subst hty'
    split at h
    · rename_i e ht1
      split at h
      · rename_i _ i j hi
        split at h
        · rename_i ts l hj
          cases hb : Nat.beq i.size ts.len with
          | false => rw [hb] at h; cases h
          | true =>
            rw [hb] at h
            simp only [cond_true] at h
            have hsz := Nat.eq_of_beq_eq_true hb
            obtain ⟨xs, hxs, h⟩ := Tree.run_bind_some h
            simp only [Tree.run, Option.some.injEq] at h; subst h
            obtain ⟨vs, hvs, hreads⟩ := contT_run (P := P) hsees hxs hu2
            rw [← hsz] at hreads
            have hj' := hs _ _ hj
            rcases row_nil (hm.obs j _ hj') with ⟨k1, k2⟩ | ⟨cap, k1, k2, k3, k4⟩
            · rw [hu1.1, k1]
              have hl0 : l.length = 0 := by rw [k2]; rfl
              refine ⟨_, w, copy_none w t1 t2 ty e i ht1 hi xs.length u2 vs hreads, after_same rfl ?_ (fun av hav => ?_)⟩
              · refine hm.renew hj' (.inl ⟨k1, ?_⟩) trivial (fun b o hfo => hfo) (Fr.refl _ _)
                exact List.length_eq_zero_iff.1 (by rw [copyL_length, hl0])
              · injection hav with hav; subst hav
                refine ⟨?_, trivial⟩
                show goInt 0 = _
                rw [hl0]; simp [goInt]
            · rw [hu1.1, k1]
              have hmul : l.length * ts.len ≤ cap * ts.len := Nat.mul_le_mul_right _ k2
              have hth : w.there (r j).b (r j).o (l.length * i.size) := fun q hq => k4 q (by rw [hsz] at hq; omega)
              refine ⟨_, _, copy_run w t1 t2 ty e i ht1 hi (r j).b (r j).o l.length cap xs.length u2 vs hreads hvs.one hth, after_same rfl ?_ (fun av hav => ?_)⟩
              · by_cases hne : l = []
                · subst hne
                  have : vs.take (Nat.min xs.length 0 * i.size) = [] := by simp
                  simp only [List.length_nil]
                  rw [this]
                  refine hm.renew hj' (.inr ⟨cap, by rw [copyL_length]; exact k1, by rw [copyL_length]; exact k2, k3, k4, fun q x hx => ?_⟩) trivial (fun b o hfo => hfo) (Fr.refl _ _)
                  have := (List.getElem?_eq_some_iff.1 hx).1
                  rw [copyL_length] at this; simp at this
                · have hmin1 : Nat.min xs.length l.length ≤ l.length := Nat.min_le_right _ _
                  have hmin2 : Nat.min xs.length l.length ≤ xs.length := Nat.min_le_left _ _
                  have hml : Nat.min xs.length l.length * ts.len ≤ l.length * ts.len := Nat.mul_le_mul_right _ hmin1
                  have hml2 : Nat.min xs.length l.length * ts.len ≤ xs.length * ts.len := Nat.mul_le_mul_right _ hmin2
                  have htl : (vs.take (Nat.min xs.length l.length * i.size)).length = Nat.min xs.length l.length * ts.len := by rw [List.length_take, hvs.len, hsz]; omega
                  have := hm.setRow (us := vs.take (Nat.min xs.length l.length * i.size)) (p := 0) (l' := copyL l xs) hj' hne (copyL_length l xs) (by rw [htl]; omega) (fun G hG1 hG2 q x hx => ?_)
                  · exact this
                  · rw [htl] at hG2
                    obtain ⟨_, _, _, _, _, k5⟩ : ∃ cap, (r j).hv = .slice (some ⟨(r j).b, (r j).o, none⟩) l.length cap ∧ l.length ≤ cap ∧ cap ≤ maxLen ∧ w.there (r j).b (r j).o (cap * ts.len) ∧ ∀ i x, l[i]? = some x → RepC (memF w) F (r j).b ((r j).o + i * ts.len) ts x := row_hdr (i := 0) (hm.obs j _ hj') (List.length_pos_iff.2 hne)
                    have hq : q < l.length := by have := (List.getElem?_eq_some_iff.1 hx).1; rwa [copyL_length] at this
                    unfold copyL at hx
                    by_cases hqx : q < xs.length
                    · rw [List.getElem?_append_left (by simp; omega), List.getElem?_take, if_pos hq] at hx
                      refine RepC.move (fun k hk v hv => ?_) (hvs.rep q x hx)
                      have hqm : q < Nat.min xs.length l.length := Nat.lt_min.2 ⟨hqx, hq⟩
                      have hlt := idx_lt hqm hk
                      have := hG1 (q * ts.len + k) v (by rw [List.getElem?_take, if_pos (by rw [hsz]; exact hlt)]; simpa [lF] using hv)
                      rw [← this]; congr 1; omega
                    · rw [List.getElem?_append_right (by simp; omega), List.getElem?_drop] at hx
                      have hx' : l[q]? = some x := by rw [← hx]; congr 1; simp; omega
                      refine RepC.congr (Frag.le_refl F) (fun k hk v hv => ?_) (k5 q x hx')
                      have hqm : Nat.min xs.length l.length ≤ q := Nat.le_trans hmin2 (by omega)
                      have : Nat.min xs.length l.length * ts.len ≤ q * ts.len := Nat.mul_le_mul_right _ hqm
                      have := hG2 (q * ts.len + k) (.inr (by omega)) v (by rw [← Nat.add_assoc]; exact hv)
                      rw [← Nat.add_assoc] at this; exact this
              · injection hav with hav; subst hav
                exact ⟨rfl, trivial⟩
        · cases h
      · rename_i _ i j off sz n cap hi
        split at h
        · rename_i l ts hj hts
          cases hb : (Nat.beq i.size ts.len && (Nat.beq sz ts.len && (Nat.blt 0 ts.len && Nat.ble n cap))) with
          | false => rw [hb] at h; cases h
          | true =>
            rw [hb] at h
            simp only [cond_true] at h
            simp only [Bool.and_eq_true] at hb
            have hsz := Nat.eq_of_beq_eq_true hb.1
            have hpos : 0 < ts.len := Nat.le_of_ble_eq_true hb.2.2.1
            obtain ⟨xs, hxs, h⟩ := Tree.run_bind_some h
            split at h
            · rename_i l' hl'
              simp only [Tree.run, Option.some.injEq] at h; subst h
              obtain ⟨vs, hvs, hreads⟩ := contT_run (P := P) hsees hxs hu2
              rw [← hsz] at hreads
              have hj' := hs _ _ hj
              obtain ⟨ws, g1, g2, g3, g4⟩ := hm.obs j _ hj'
              obtain ⟨c1, c2, c3⟩ := copyLit_spec hl' hpos
              rw [show u1 = _ from hu1]
              have hfit : off + n * ts.len ≤ l.length ∨ n = 0 := by
                rcases Nat.eq_zero_or_pos n with h0 | h0
                · exact .inr h0
                · exact .inl (c2 h0)
              have hth : w.there (r j).b ((r j).o + off) (n * i.size) := fun q hq => by
                rcases hfit with hf | hf
                · have := g3 (off + q) (by rw [hsz] at hq; omega); rw [← Nat.add_assoc] at this; exact this
                · subst hf; simp at hq
              refine ⟨_, _, copy_run w t1 t2 ty e i ht1 hi (r j).b ((r j).o + off) n cap xs.length u2 vs hreads hvs.one hth, after_same rfl ?_ (fun av hav => ?_)⟩
              · have hmin1 : Nat.min xs.length n ≤ n := Nat.min_le_right _ _
                have hmin2 : Nat.min xs.length n ≤ xs.length := Nat.min_le_left _ _
                have hml : Nat.min xs.length n * ts.len ≤ n * ts.len := Nat.mul_le_mul_right _ hmin1
                have hml2 : Nat.min xs.length n * ts.len ≤ xs.length * ts.len := Nat.mul_le_mul_right _ hmin2
                have htl : (vs.take (Nat.min xs.length n * i.size)).length = Nat.min xs.length n * ts.len := by rw [List.length_take, hvs.len, hsz]; omega
                rcases hfit with hfit | hfit
                · refine hm.setLit hj' c1 (fun c hc => ?_) (fun v hv => hvs.one v (List.mem_of_mem_take hv)) (by rw [htl]; omega) (fun ws' hws' => ?_)
                  · obtain ⟨p, hp⟩ := List.mem_iff_getElem?.1 hc
                    obtain ⟨a1, a2⟩ := c3 p c hp
                    by_cases hin : p < off ∨ off + n * ts.len ≤ p
                    · exact hm.scp j _ hj' c (List.mem_of_getElem? (a1 hin))
                    · obtain ⟨old, new, _, _, hmg⟩ := a2 ((p - off) / ts.len) ((p - off) % ts.len) (by rw [Nat.div_lt_iff_lt_mul hpos]; omega) (Nat.mod_lt _ hpos) (by
                        have := Nat.div_add_mod (p - off) ts.len
                        rw [Nat.mul_comm] at this; omega)
                      exact (mergeC_spec (F := F) (r := r) hmg).1 D
                  · have hwl := cellsRep_length hws'
                    refine cellsRep_of (by simp [htl, c1, hwl]; rw [htl] at *; omega) (fun p c v hp hv => ?_)
                    obtain ⟨a1, a2⟩ := c3 p c hp
                    by_cases hin : p < off ∨ off + n * ts.len ≤ p
                    · obtain ⟨v', hv', hr'⟩ := cellsRep_get hws' p c (a1 hin)
                      have : v = v' := by
                        rcases hin with hin | hin
                        · rw [List.getElem?_append_left (by simp; omega), List.getElem?_take, if_pos hin, hv'] at hv
                          injection hv with hv; exact hv.symm
                        · rw [List.getElem?_append_right (by simp; omega), List.getElem?_append_right (by rw [htl]; simp; omega), List.getElem?_drop, htl] at hv
                          rw [show off + Nat.min xs.length n * ts.len + (p - (List.take off ws').length - Nat.min xs.length n * ts.len) = p by simp; omega, hv'] at hv
                          injection hv with hv; exact hv.symm
                      rw [this]; exact hr'
                    · have hdm := Nat.div_add_mod (p - off) ts.len
                      rw [Nat.mul_comm] at hdm
                      have hq : (p - off) / ts.len < n := by rw [Nat.div_lt_iff_lt_mul hpos]; omega
                      have hk := Nat.mod_lt (p - off) hpos
                      obtain ⟨old, new, hold, hnew, hmg⟩ := a2 ((p - off) / ts.len) ((p - off) % ts.len) hq hk (by omega)
                      generalize hqd : (p - off) / ts.len = q at *
                      generalize hkd : (p - off) % ts.len = k at *
                      rw [Nat.zero_add] at hnew hmg
                      obtain ⟨_, m2, m3⟩ := mergeC_spec (F := F) (r := r) hmg
                      by_cases hqx : q < xs.length
                      · have hbl : Nat.blt q xs.length = true := by
                          cases hh : Nat.blt q xs.length with
                          | true => rfl
                          | false => exact absurd hqx (by intro hc; have : Nat.ble (q + 1) xs.length = true := Nat.ble_eq_true_of_le hc; simp [Nat.blt, this] at hh)
                        refine m2 hbl v ?_
                        have hqm : q < Nat.min xs.length n := Nat.lt_min.2 ⟨hqx, hq⟩
                        have hlt := idx_lt hqm hk
                        rw [List.getElem?_append_right (by simp; omega), List.getElem?_append_left (by rw [htl]; simp; omega), List.getElem?_take, if_pos (by rw [hsz]; simp; omega)] at hv
                        have hv' : vs[q * ts.len + k]? = some v := by rw [← hv]; congr 1; simp; omega
                        obtain ⟨us, e1, e2, e3, _⟩ := cellsOf_rep (r := r) (hvs.rep q _ (getD_get hqx ts.dflt))
                        obtain ⟨u, hu, hur⟩ := cellsRep_get e3 k new hnew
                        have := e2 k u hu
                        simp only [lF] at this
                        rw [hv'] at this
                        injection this with this; subst this
                        exact hur
                      · have hbl : Nat.blt q xs.length = false := by
                          cases hh : Nat.blt q xs.length with
                          | false => rfl
                          | true => exact absurd (Nat.le_of_ble_eq_true hh : q < xs.length) hqx
                        refine m3 hbl v ?_
                        obtain ⟨u, hu, hur⟩ := cellsRep_get hws' p old hold
                        have hqm : Nat.min xs.length n ≤ q := Nat.le_trans hmin2 (by omega)
                        have hqml : Nat.min xs.length n * ts.len ≤ q * ts.len := Nat.mul_le_mul_right _ hqm
                        rw [List.getElem?_append_right (by simp; omega), List.getElem?_append_right (by rw [htl]; simp; omega), List.getElem?_drop, htl] at hv
                        rw [show off + Nat.min xs.length n * ts.len + (p - (List.take off ws').length - Nat.min xs.length n * ts.len) = p by simp; omega, hu] at hv
                        injection hv with hv; subst hv
                        exact hur
                · subst hfit
                  have h0 : vs.take (Nat.min xs.length 0 * i.size) = [] := by simp
                  rw [h0]
                  simp only [copyLit, Option.some.injEq] at hl'
                  subst hl'
                  exact hm.renew hj' ⟨ws, g1, g2, g3, g4⟩ (hm.scp j _ hj') (fun b o hfo => hfo) (Fr.refl _ _)
              · injection hav with hav; subst hav
                exact ⟨rfl, trivial⟩
            · cases h
        · cases h
      · cases h
    · cases h
  · cases h
end
end Go.Sz
