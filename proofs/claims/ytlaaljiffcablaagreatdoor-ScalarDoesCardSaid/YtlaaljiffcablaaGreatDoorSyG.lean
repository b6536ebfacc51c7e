/-
  A symbolic machine for one call: a region that draws its order, in one order.
-/
import Derived.Test.YtlaaljiffcablaaGreatDoorSyF
namespace Go.Sy
open Go Go.RowKit

/-- Does operation u wait for operation i by an edge of its own? -/
def direct (md : Region.Mode) (ops : Array Oper) (u i : Nat) : Bool := match ops[u]? with
  | some o => o.after.any fun e => Region.binds md e && e.on == i
  | none => false

abbrev Pend := List (Nat × (World → Prop))

def keepD (md : Region.Mode) (ops : Array Oper) (u : Nat) (D : Pend) : Pend := D.filter fun p => !direct md ops u p.1

/-- Whatever order is picked from here on; a pending condition holds behind each operation till one that waits for it. -/
def wpAnyD (P : Program) (md : Region.Mode) (ops : Array Oper) (Q : Exit → Act → World → Prop) : Nat → Array Bool → Pend → Act → World → Prop
  | 0, listed, _, a, w => Region.ready md ops listed = [] ∧ Q .normal a w
  | fuel + 1, listed, D, a, w =>
    (Region.ready md ops listed = [] → Q .normal a w) ∧
    ∀ i ∈ Region.ready md ops listed, wpOp P ops Q i (fun a' w' => (∀ p ∈ keepD md ops i D, p.2 w') ∧ wpAnyD P md ops Q fuel (listed.setIfInBounds i true) (keepD md ops i D) a' w') a w

section
variable {P : Program} {ops : Array Oper} {Q : Exit → Act → World → Prop} {md : Region.Mode}

theorem wpAny_of_D : ∀ (fuel : Nat) (listed : Array Bool) (D : Pend) (a : Act) (w : World), wpAnyD P md ops Q fuel listed D a w → wpAny P md ops Q fuel listed a w
  | 0, _, _, _, _, h => h
  | fuel + 1, _, _, _, _, h => ⟨h.1, fun i hi => wpOp_mono (fun a' w' h' => wpAny_of_D fuel _ _ a' w' h'.2) (h.2 i hi)⟩

theorem keepD_sub {u : Nat} {D D' : Pend} (h : ∀ p ∈ D, p ∈ D' ∨ ∀ w, p.2 w) : ∀ p ∈ keepD md ops u D, p ∈ keepD md ops u D' ∨ ∀ w, p.2 w := fun p hp => by
  simp only [keepD, List.mem_filter] at hp ⊢
  rcases h p hp.1 with h1 | h1
  · exact .inl ⟨h1, hp.2⟩
  · exact .inr h1

theorem wpAnyD_mono : ∀ (fuel : Nat) (listed : Array Bool) (D D' : Pend) (a : Act) (w : World), (∀ p ∈ D, p ∈ D' ∨ ∀ w, p.2 w) → wpAnyD P md ops Q fuel listed D' a w → wpAnyD P md ops Q fuel listed D a w
  | 0, _, _, _, _, _, _, h => h
  | fuel + 1, _, _, _, _, _, hs, h => ⟨h.1, fun i hi => wpOp_mono (fun a' w' h' => ⟨fun p hp => by
      rcases keepD_sub hs p hp with h1 | h1
      · exact h'.1 p h1
      · exact h1 w', wpAnyD_mono fuel _ _ _ a' w' (keepD_sub hs) h'.2⟩) (h.2 i hi)⟩

theorem not_direct_of_ready {i j : Nat} {listed : Array Bool} (hj : j ∈ Region.ready md ops listed) (hi : i ∈ Region.ready md ops listed) : direct md ops j i = false := by
  obtain ⟨_, oj, hoj, hall⟩ := mem_ready.1 hj
  have h0 := (mem_ready.1 hi).1
  unfold direct
  simp only [hoj]
  cases hany : oj.after.any fun e => Region.binds md e && e.on == i with
  | false => rfl
  | true =>
    obtain ⟨e, he, hb⟩ := Array.any_eq_true'.1 hany
    simp only [Bool.and_eq_true, beq_iff_eq] at hb
    have h1 := hall e he hb.1
    rw [hb.2] at h1
    rcases Nat.lt_or_ge i listed.size with h' | h'
    · simp [h'] at h0 h1; rw [h0] at h1; cases h1
    · simp [Array.getElem?_eq_none h'] at h1

theorem wpAnyD_first {i : Nat} {oi : Oper} {v : Value} {C : World → Prop} (hi : ops[i]? = some oi) (hsel : ∀ (j : Nat) (o : Oper) cs b, ops[j]? = some o → o.op ≠ .select cs b)
    (hQ : ∀ c a w, Q (.panic c) (a.put oi.dst v) w → Q (.panic c) a w) :
    ∀ (fuel : Nat) (listed : Array Bool) (D : Pend) (a : Act) (w : World),
      (∀ j oj, ops[j]? = some oj → j ≠ i → listed.getD j true = false → (∀ e ∈ oj.after, Region.binds md e = true → e.on ≠ i) → oi.apart ops oj = true) →
      i ∈ Region.ready md ops listed → YieldsIf P ops C oi v a → C w → (∀ p ∈ D, p.2 w) →
      wpAnyD P md ops Q fuel (listed.setIfInBounds i true) ((i, C) :: D) (a.put oi.dst v) w → wpAnyD P md ops Q (fuel + 1) listed D a w := by
  intro fuel
  induction fuel with
  | zero =>
    intro listed D a w _ hr hy hC hD H
    refine ⟨fun h => (by rw [h] at hr; cases hr), fun j hj => ?_⟩
    by_cases hji : j = i
    · subst hji; exact hy.wpOp hi hC ⟨fun p hp => hD p (List.mem_filter.1 hp).1, H⟩
    · have := ready_mono hj hji
      rw [H.1] at this
      cases this
  | succ fuel ih =>
    intro listed D a w hfree hr hy hC hD H
    refine ⟨fun h => (by rw [h] at hr; cases hr), fun j hj => ?_⟩
    by_cases hji : j = i
    · subst hji
      exact hy.wpOp hi hC ⟨fun p hp => hD p (List.mem_filter.1 hp).1, wpAnyD_mono _ _ _ _ _ _ (fun p hp => .inl (List.mem_cons_of_mem _ (List.mem_filter.1 hp).1)) H⟩
    · have h1 := H.2 j (ready_mono hj hji)
      have hnd := not_direct_of_ready hj hr
      have hk : keepD md ops j ((i, C) :: D) = (i, C) :: keepD md ops j D := by
        simp [keepD, hnd]
      rw [hk] at h1
      obtain ⟨hjun, oj, hoj, hall⟩ := mem_ready.1 hj
      have hnot : ∀ e ∈ oj.after, Region.binds md e = true → e.on ≠ i := fun e he hb heq => by
        have h1 := hall e he hb
        have h0 := (mem_ready.1 hr).1
        rw [heq] at h1
        rcases Nat.lt_or_ge i listed.size with h' | h'
        · simp [h'] at h0 h1; rw [h0] at h1; cases h1
        · simp [Array.getElem?_eq_none h'] at h1
      have h2 := wpOp_putIf hoj (hfree j oj hoj hji hjun hnot) (fun cs b => hsel i oi cs b hi) (fun cs b => hsel j oj cs b hoj) hQ hy h1
      have hfree' : ∀ k ok, ops[k]? = some ok → k ≠ i → (listed.setIfInBounds j true).getD k true = false →
          (∀ e ∈ ok.after, Region.binds md e = true → e.on ≠ i) → oi.apart ops ok = true := fun k ok hk hki hun hno => by
        refine hfree k ok hk hki ?_ hno
        by_cases hjk : j = k
        · subst hjk; exact hjun
        · rw [getD_set_ne true hjk] at hun; exact hun
      refine wpOp_mono (fun a' w' h3 => ?_) h2
      obtain ⟨hy', hcs, hrest⟩ := h3
      refine ⟨fun p hp => hcs p (List.mem_cons_of_mem _ hp), ?_⟩
      refine ih (listed.setIfInBounds j true) (keepD md ops j D) a' w' hfree' (ready_mono hr (Ne.symm hji)) hy' (hcs (i, C) List.mem_cons_self) (fun p hp => hcs p (List.mem_cons_of_mem _ hp)) ?_
      rw [Array.setIfInBounds_comm _ _ hji]
      exact hrest

theorem wpAnyD_take {i : Nat} {oi : Oper} {v : Value} {C : World → Prop} {fuel : Nat} {listed : Array Bool} {D : Pend} {a : Act} {w : World} (hi : ops[i]? = some oi)
    (hs : Region.noSelect ops = true) (hf : Region.free md ops listed i = true) (hr : i ∈ Region.ready md ops listed)
    (hQ : ∀ c a w, Q (.panic c) (a.put oi.dst v) w → Q (.panic c) a w) (hy : YieldsIf P ops C oi v a) (hC : C w) (hD : ∀ p ∈ D, p.2 w)
    (h : wpAnyD P md ops Q fuel (listed.setIfInBounds i true) ((i, C) :: D) (a.put oi.dst v) w) : wpAnyD P md ops Q (fuel + 1) listed D a w :=
  wpAnyD_first hi (Region.noSelect_spec hs) hQ fuel listed D a w (Region.free_spec hi hf) hr hy hC hD h

theorem wpAnyD_one {i : Nat} {fuel : Nat} {listed : Array Bool} {D : Pend} {a : Act} {w : World} (hr : Region.ready md ops listed = [i])
    (h : wpOp P ops Q i (fun a' w' => (∀ p ∈ keepD md ops i D, p.2 w') ∧ wpAnyD P md ops Q fuel (listed.setIfInBounds i true) (keepD md ops i D) a' w') a w) : wpAnyD P md ops Q (fuel + 1) listed D a w :=
  ⟨fun h0 => (by rw [hr] at h0; cases h0), fun j hj => by rw [hr] at hj; simp at hj; subst hj; exact h⟩

theorem wpAnyD_done {listed : Array Bool} {D : Pend} {a : Act} {w : World} (hr : Region.ready md ops listed = []) (h : Q .normal a w) : ∀ fuel, wpAnyD P md ops Q fuel listed D a w
  | 0 => ⟨hr, h⟩
  | _ + 1 => ⟨fun _ => h, by rw [hr]; simp⟩

theorem wp_region_D {id : Nat} {a : Act} {w : World} (hm : P.follows .mixedOrders = true)
    (h : wpAnyD P .any ops Q ops.size (Array.replicate ops.size false) [] a w.drew) : (Code.region id ops true).wp P Q a w :=
  wp_region_any hm (wpAny_of_D _ _ _ _ _ h)

end

/-! ### The range that a load reads -/
theorem loadA_range {P : Program} {r : Loc} {hp : Hp} {t : TypeId} {j off : Nat} {x : Part} (h : loadA P hp t j off = some x) :
    (∃ l : List Cell, hp[j]? = some l ∧ (x.cells.length = 0 ∨ off + x.cells.length ≤ l.length) ∧ x.cells = (l.drop off).take x.cells.length) ∧
    ∀ w : World, w.rangeAt (r j).1 ((r j).2 + off) (denCells r x.cells) → (loadVar t ⟨(r j).1, (r j).2 + off, none⟩).run P w = .ok (x.den r) w := by
  unfold loadA at h
  split at h
  · cases h
  rename_i l hl
  rw [nth_eq] at hl
  split at h
  · rename_i hagg
    split at h
    · rename_i n hn
      split at h
      · rename_i cs hcs
        injection h with h; subst h
        obtain ⟨h1, h2⟩ := takeX_spec _ _ _ hcs
        refine ⟨⟨l, hl, ?_, ?_⟩, fun w hr => ?_⟩
        · by_cases hn0 : n = 0
          · exact .inl (by simp only [Part.cells]; omega)
          · have := congrArg List.length h1
            simp at this
            simp only [Part.cells]
            exact .inr (by omega)
        · simp only [Part.cells]; rw [h2]; exact h1
        · unfold loadVar
          rw [Sem.run_bind, pureSem_run hagg]
          simp only [Result.andThen_ok, if_true, Sem.run_bind, pureSem_run hn]
          have hlen : (denCells r cs).length = n := by rw [denCells_length, h2]
          have := run_loadCells_list (P := P) w ⟨(r j).1, (r j).2 + off, none⟩ (denCells r cs) (fun i v hv => by
            rw [Addr.add_mid]; exact hr i v hv)
          rw [hlen] at this
          simp [this, Part.den]
      · cases h
    · cases h
  · rename_i hagg
    split at h
    · rename_i c hc
      injection h with h; subst h
      rw [nth_eq] at hc
      have hlt : off < l.length := (List.getElem?_eq_some_iff.1 hc).1
      refine ⟨⟨l, hl, .inr (by simp [Part.cells]; omega), ?_⟩, fun w hr => ?_⟩
      · simp only [Part.cells, List.length_singleton]
        apply List.ext_getElem?
        intro i
        rw [List.getElem?_take, List.getElem?_drop]
        cases i with
        | zero => simp [hc]
        | succ i => simp
      · unfold loadVar
        rw [Sem.run_bind, pureSem_run hagg]
        have h1 : w.cell? ⟨(r j).1, (r j).2 + off, none⟩ = some (c.den r) := by
          have := hr 0 (c.den r) (by simp [Part.cells, denCells])
          simpa using this
        simp [h1, Part.den]
    · cases h
  · cases h

end Go.Sy
