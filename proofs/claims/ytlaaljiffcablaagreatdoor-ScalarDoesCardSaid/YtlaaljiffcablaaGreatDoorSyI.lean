/-
  A symbolic machine for one call: regions that draw, code, calls.
-/
import Derived.Test.YtlaaljiffcablaaGreatDoorSyH
namespace Go.Sy
open Go Go.RowKit

abbrev PendA := List (Nat × Nat × Nat × Nat)

def loadRange (P : Program) (hp : Hp) (env : Env) (o : Oper) : Nat × Nat × Nat := match o.op with
  | .load t a => match evalO env a with
    | some (.p (.one (.p j off))) => match loadA P hp t j off with
      | some x => (j, off, x.cells.length)
      | none => (0, 0, 0)
    | _ => (0, 0, 0)
  | _ => (0, 0, 0)

def keepA (ops : Array Oper) (u : Nat) (pend : PendA) : PendA := pend.filter fun p => !direct .any ops u p.1

def clearA (wr : List (Nat × Nat × Nat)) (pend : PendA) : Bool := pend.all fun p => wr.all (apart1 p.2)

def pickSil (ops : Array Oper) : List Nat → Option Nat
  | [] => none
  | i :: l => match ops[i]? with
    | some o => bif isAct o.op then pickSil ops l else some i
    | none => none

def drawOps (P : Program) (T : FuncId → Option Summ) (N : Nat) (ops : Array Oper) : Nat → Array Bool → PendA → St → Tree St
  | 0, listed, _, st => bif (Region.ready .any ops listed).isEmpty then .ret st else .fail
  | fuel + 1, listed, pend, st => match Region.ready .any ops listed with
    | [] => .ret st
    | r :: rs => match pickSil ops (r :: rs) with
      | some i => match ops[i]? with
        | none => .fail
        | some o => bif Region.free .any ops listed i && dstOk N o.dst then
            guardT ops o st.env
              (fun env => (sil P st.hp env o).bind fun av => drawOps P T N ops fuel (listed.setIfInBounds i true) (bif isLoad o then (i, loadRange P st.hp env o) :: pend else pend) ⟨putE o.dst av env, st.hp⟩)
              (fun env => drawOps P T N ops fuel (listed.setIfInBounds i true) pend ⟨putE o.dst (.t []) env, st.hp⟩)
          else .fail
      | none => match rs with
        | _ :: _ => .fail
        | [] => match ops[r]? with
          | none => .fail
          | some o => bif dstOk N o.dst then
              guardT ops o st.env
                (fun env => match act P T st.hp env o with
                  | some x => .ite x.ck (bif clearA x.wr (keepA ops r pend) then drawOps P T N ops fuel (listed.setIfInBounds r true) (keepA ops r pend) ⟨putE o.dst (rvA x.res) env, x.hp⟩ else .fail) .fail
                  | none => .fail)
                (fun env => drawOps P T N ops fuel (listed.setIfInBounds r true) (keepA ops r pend) ⟨putE o.dst (.t []) env, st.hp⟩)
            else .fail

/-- The pending conditions hang on no more than the cells of their ranges. -/
def PD (r : Loc) (hp : Hp) (w : World) : PendA → Pend → Prop
  | [], [] => True
  | p :: ps, d :: ds => d.1 = p.1 ∧ (p.2.2.2 = 0 ∨ ∃ l, hp[p.2.1]? = some l ∧ p.2.2.1 + p.2.2.2 ≤ l.length) ∧
      (∀ w', (∀ i, i < p.2.2.2 → w'.cell? ⟨(r p.2.1).1, (r p.2.1).2 + (p.2.2.1 + i), none⟩ = w.cell? ⟨(r p.2.1).1, (r p.2.1).2 + (p.2.2.1 + i), none⟩) → d.2 w') ∧ PD r hp w ps ds
  | _, _ => False

theorem PD.now {r : Loc} {hp : Hp} {w : World} : ∀ {ps : PendA} {ds : Pend}, PD r hp w ps ds → ∀ d ∈ ds, d.2 w
  | [], [], _, d, hd => by cases hd
  | p :: ps, d :: ds, h, x, hx => by
    obtain ⟨_, _, h3, h4⟩ := h
    rcases List.mem_cons.1 hx with rfl | hx
    · exact h3 w (fun _ _ => rfl)
    · exact h4.now x hx

theorem PD.keep {r : Loc} {hp : Hp} {w : World} {ops : Array Oper} {u : Nat} : ∀ {ps : PendA} {ds : Pend}, PD r hp w ps ds → PD r hp w (keepA ops u ps) (keepD .any ops u ds)
  | [], [], _ => trivial
  | p :: ps, d :: ds, h => by
    obtain ⟨h1, h2, h3, h4⟩ := h
    have ih := h4.keep (ops := ops) (u := u)
    simp only [keepA, keepD, List.filter_cons, h1] at ih ⊢
    cases direct .any ops u p.1
    · exact ⟨h1, h2, h3, ih⟩
    · exact ih

theorem PD.after {w0 : World} {S : Nat → Nat → Prop} {m : Nat} {r0 r r' : Loc} {hp : Hp} {w w' : World} {x : Act'} (ha : After w0 S m r0 r hp w x r' w')
    (hg : ∀ (j : Nat) (l : List Cell), hp[j]? = some l → ∃ l', x.hp[j]? = some l' ∧ l'.length = l.length) :
    ∀ {ps : PendA} {ds : Pend}, PD r hp w ps ds → clearA x.wr ps = true → PD r' x.hp w' ps ds
  | [], [], _, _ => trivial
  | p :: ps, d :: ds, h, hc => by
    obtain ⟨h1, h2, h3, h4⟩ := h
    simp only [clearA, List.all_cons, Bool.and_eq_true] at hc
    have ih := h4.after ha hg (by simpa [clearA] using hc.2)
    refine ⟨h1, ?_, fun w'' hw => h3 w'' fun i hi => ?_, ih⟩
    · rcases h2 with h2 | ⟨l, hl, hle⟩
      · exact .inl h2
      · obtain ⟨l', hl', hlen⟩ := hg _ l hl
        exact .inr ⟨l', hl', by omega⟩
    · rcases h2 with h2 | ⟨l, hl, hle⟩
      · omega
      · have hj : p.2.1 < hp.length := (List.getElem?_eq_some_iff.1 hl).1
        have := hw i hi
        rw [ha.agree _ hj] at this
        rw [this]
        exact ha.keeps _ _ _ l hl hle (List.all_eq_true.1 hc.1) i hi

section
variable {P : Program} {T : FuncId → Option Summ} {N : Nat} {w0 : World} {S : Nat → Nat → Prop} {m : Nat} {r0 : Loc}

theorem act_len {hp : Hp} {env : Env} {o : Oper} {x : Act'} (h : act P T hp env o = some x) : ∀ (j : Nat) (l : List Cell), hp[j]? = some l → ∃ l', x.hp[j]? = some l' ∧ l'.length = l.length := by
  have app : ∀ (cs : List Cell) (j : Nat) (l : List Cell), hp[j]? = some l → ∃ l', (hp ++ [cs])[j]? = some l' ∧ l'.length = l.length := fun cs j l hl =>
    ⟨l, by rw [List.getElem?_append_left (List.getElem?_eq_some_iff.1 hl).1]; exact hl, rfl⟩
  unfold act at h
  split at h
  · split at h
    · rename_i v hv
      cases hok : okAll (ofK1 v).cells with
      | false => rw [hok] at h; cases h
      | true => rw [hok] at h; simp only [cond_true, Option.some.injEq] at h; subst h; exact app _
    · cases h
  · split at h
    · rename_i q hq
      cases hok : okAll q.cells with
      | false => rw [hok] at h; cases h
      | true => rw [hok] at h; simp only [cond_true, Option.some.injEq] at h; subst h; exact app _
    · cases h
  · split at h
    · rename_i j off q n hy hz hn
      cases hb : (Nat.beq q.cells.length n && okAll q.cells) with
      | false => rw [hb] at h; cases h
      | true =>
        rw [hb] at h
        simp only [cond_true] at h
        split at h
        · rename_i hp' hset
          injection h with h; subst h
          obtain ⟨l0, hl0, hle, rfl⟩ := setR_spec hset
          intro k l hl
          by_cases hjk : j = k
          · subst hjk
            rw [hl0] at hl; injection hl with hl; subst hl
            exact ⟨putR l0 off q.cells, by rw [List.getElem?_set, if_pos rfl, if_pos (List.getElem?_eq_some_iff.1 hl0).1], putR_length hle⟩
          · exact ⟨l, by rw [List.getElem?_set, if_neg hjk]; exact hl, rfl⟩
        · cases h
    · cases h
  · split at h
    · split at h
      · split at h
        · split at h
          · rename_i sp hsp
            cases hap : apartAll sp.js with
            | false => rw [hap] at h; cases h
            | true =>
              rw [hap] at h
              simp only [cond_true] at h
              split at h
              · split at h
                · rename_i v' hp' hv' hwb
                  injection h with h; subst h
                  obtain ⟨g1, g2, _⟩ := wb_spec _ _ _ _ hwb
                  intro k l hl
                  have hk : k < hp'.length := by rw [g1]; exact (List.getElem?_eq_some_iff.1 hl).1
                  obtain ⟨l0, hl0, hlen, _⟩ := g2 k hp'[k] (List.getElem?_eq_getElem hk)
                  rw [hl] at hl0; injection hl0 with hl0; subst hl0
                  exact ⟨_, List.getElem?_eq_getElem hk, hlen⟩
                · cases h
              · cases h
          · cases h
        · cases h
      · cases h
    · cases h
  · cases h

theorem pickSil_mem {ops : Array Oper} : ∀ {l : List Nat} {i : Nat}, pickSil ops l = some i → i ∈ l ∧ ∃ o, ops[i]? = some o ∧ isAct o.op = false
  | [], i, h => by cases h
  | x :: l, i, h => by
    simp only [pickSil] at h
    split at h
    · rename_i o ho
      cases hb : isAct o.op with
      | true =>
        rw [hb] at h
        obtain ⟨h1, h2⟩ := pickSil_mem h
        exact ⟨List.mem_cons_of_mem _ h1, h2⟩
      | false =>
        rw [hb] at h
        simp only [cond_false, Option.some.injEq] at h; subst h
        exact ⟨List.mem_cons_self, o, ho, hb⟩
    · cases h

theorem sil_load {hp : Hp} {env : Env} {o : Oper} {av : AV} (hlo : isLoad o = true) (h : (sil P hp env o).run = some av) :
    ∃ t a j off x, o.op = .load t a ∧ evalO env a = some (.p (.one (.p j off))) ∧ loadA P hp t j off = some x ∧ av = .p x ∧ loadRange P hp env o = (j, off, x.cells.length) := by
  obtain ⟨dst, op, type, pos, after, guard⟩ := o
  cases op <;> simp [isLoad] at hlo
  rename_i t a
  simp only [sil] at h
  split at h
  · rename_i j off ha
    split at h
    · rename_i x hx
      simp only [Tree.run, Option.some.injEq] at h; subst h
      exact ⟨t, a, j, off, x, rfl, ha, hx, rfl, by simp [loadRange, ha, hx]⟩
    · cases h
  · cases h

theorem draw_wp (hT : TOkAt P T w0 S) {ops : Array Oper} (hs : Region.noSelect ops = true) {Q : Exit → Act → World → Prop} {st' : St} (hQ : ∀ r' a' w', Conc N w0 S m r0 r' st' a' w' → Q .normal a' w')
    (hQp : ∀ (c : List PanicEntry) (a : Act) (d : Option Tmp) (v : Value) (w : World), Q (.panic c) (a.put d v) w → Q (.panic c) a w) :
    ∀ (fuel : Nat) (listed : Array Bool) (pend : PendA) (D : Pend) (st : St) (r : Loc) (a : Act) (w : World), (drawOps P T N ops fuel listed pend st).run = some st' → Conc N w0 S m r0 r st a w →
      PD r st.hp w pend D → wpAnyD P .any ops Q fuel listed D a w
  | 0, listed, pend, D, st, r, a, w, h, hc, _ => by
    simp only [drawOps] at h
    cases hr : (Region.ready .any ops listed).isEmpty with
    | false => rw [hr] at h; cases h
    | true =>
      rw [hr] at h
      simp only [cond_true, Tree.run, Option.some.injEq] at h; subst h
      exact ⟨by simpa using hr, hQ r a w hc⟩
  | fuel + 1, listed, pend, D, st, r, a, w, h, hc, hpd => by
    simp only [drawOps] at h
    split at h
    · rename_i hr
      simp only [Tree.run, Option.some.injEq] at h; subst h
      exact wpAnyD_done hr (hQ r a w hc) _
    · rename_i r1 rs hr
      split at h
      · -- a quiet one, taken first
        rename_i i hi
        obtain ⟨hmem, o, ho, hsil⟩ := pickSil_mem hi
        rw [← hr] at hmem
        rw [ho] at h
        simp only [] at h
        cases hb : (Region.free .any ops listed i && dstOk N o.dst) with
        | false => rw [hb] at h; cases h
        | true =>
          rw [hb] at h
          simp only [Bool.and_eq_true] at hb
          simp only [cond_true] at h
          obtain ⟨env', he, hl, hcase⟩ := guardT_spec h hc.env hc.elt
          rcases hcase with ⟨hw, hx⟩ | ⟨hw, hx⟩
          · obtain ⟨av, hav, h2⟩ := Tree.run_bind_some hx
            have hlt := sil_lt hl hc.mem.hlt hav
            have hc' := hc.put he hl hb.2 hlt
            cases hlo : isLoad o with
            | false =>
              rw [hlo] at h2
              simp only [cond_false] at h2
              have := draw_wp hT hs hQ hQp fuel _ pend D _ r _ w h2 hc' hpd
              refine wpAnyD_take (C := fun _ => True) ho hs hb.1 hmem (fun c a' w' => hQp c a' _ _ w') (.inl ⟨hw, fun w' _ => sil_run hav he (fun e => by rw [hlo] at e; cases e)⟩) trivial hpd.now ?_
              exact wpAnyD_mono _ _ _ _ _ _ (fun p hp => by
                rcases List.mem_cons.1 hp with rfl | hp
                · exact .inr fun _ => trivial
                · exact .inl hp) this
            | true =>
              rw [hlo] at h2
              simp only [cond_true] at h2
              obtain ⟨t, y, j, off, x, hop, hy, hx', rfl, hrange⟩ := sil_load hlo hav
              obtain ⟨⟨l, hl', hle, hcs⟩, hload⟩ := loadA_range (r := r) hx'
              rw [hrange] at h2
              have hnow : w.rangeAt (r j).1 ((r j).2 + off) (denCells r x.cells) := by
                intro k v hv
                have h3 : (denCells r l)[off + k]? = some v := by
                  rw [hcs, denCells_take, denCells_drop, List.getElem?_take] at hv
                  split at hv
                  · rw [List.getElem?_drop] at hv; exact hv
                  · cases hv
                have := (hc.mem.heap j l hl').1 (off + k) v h3
                rwa [← Nat.add_assoc] at this
              have := draw_wp hT hs hQ hQp fuel _ ((i, j, off, x.cells.length) :: pend) ((i, fun w' => w'.rangeAt (r j).1 ((r j).2 + off) (denCells r x.cells)) :: D) _ r _ w h2 hc'
                ⟨rfl, hle.imp id (fun h => ⟨l, hl', h⟩), fun w' hw' => fun k v hv => by
                  have hk : k < x.cells.length := by have := (List.getElem?_eq_some_iff.1 hv).1; rwa [denCells_length] at this
                  have h4 := hw' k hk
                  simp only [] at h4
                  rw [Nat.add_assoc, h4, ← Nat.add_assoc]
                  exact hnow k v hv, hpd⟩
              refine wpAnyD_take ho hs hb.1 hmem (fun c a' w' => hQp c a' _ _ w') (.inl ⟨hw, fun w' hw' => ?_⟩) hnow hpd.now this
              obtain ⟨dst, op, type, pos, after, guard⟩ := o
              simp only at hop; subst hop
              simp only [execOp, evalO_den he hy, AV.den, Part.den, Cell.den, Instr.loadAt, Instr.sureAddr, Sem.run_bind, Sem.run_pure, Result.andThen_ok, hload w' hw']
          · have hc' := hc.put he hl hb.2 (av := .t []) (fun x hx => by cases hx)
            have := draw_wp hT hs hQ hQp fuel _ pend D _ r _ w hx hc' hpd
            refine wpAnyD_take (C := fun _ => True) ho hs hb.1 hmem (fun c a' w' => hQp c a' _ _ w') (.inr ⟨hw, rfl⟩) trivial hpd.now ?_
            exact wpAnyD_mono _ _ _ _ _ _ (fun p hp => by
                rcases List.mem_cons.1 hp with rfl | hp
                · exact .inr fun _ => trivial
                · exact .inl hp) this
      · -- the one that acts
        split at h
        · cases h
        · split at h
          · cases h
          · rename_i o ho
            cases hd : dstOk N o.dst with
            | false => rw [hd] at h; cases h
            | true =>
              rw [hd] at h
              simp only [cond_true] at h
              obtain ⟨env', he, hl, hcase⟩ := guardT_spec h hc.env hc.elt
              refine wpAnyD_one hr ?_
              unfold wpOp
              simp only [ho]
              rcases hcase with ⟨hw, hx⟩ | ⟨hw, hx⟩
              · simp only [hw, if_true]
                refine .inl ?_
                split at hx
                · rename_i x hxa
                  obtain ⟨hck, hx⟩ := Tree.run_ck hx
                  cases hcl : clearA x.wr (keepA ops r1 pend) with
                  | false => rw [hcl] at hx; cases hx
                  | true =>
                    rw [hcl] at hx
                    simp only [cond_true] at hx
                    refine act_wp hT hxa hck he hl hc.mem fun r' w' haft => ?_
                    have hpd' := PD.after haft (act_len hxa) (hpd.keep (ops := ops) (u := r1)) hcl
                    exact ⟨hpd'.now, draw_wp hT hs hQ hQp fuel _ _ _ _ r' _ w' hx (hc.after he hl hd haft) hpd'⟩
                · cases hx
              · simp only [hw, Bool.false_eq_true, if_false]
                have hc' := hc.put he hl hd (av := .t []) (fun x hx => by cases hx)
                have hpd' := hpd.keep (ops := ops) (u := r1)
                exact ⟨hpd'.now, draw_wp hT hs hQ hQp fuel _ _ _ _ r _ w hx hc' hpd'⟩

/-! ### Every order of those that act -/
def allT (f : Nat → Tree (List St)) : List Nat → Tree (List St)
  | [] => .ret []
  | i :: l => (f i).bind fun x => (allT f l).bind fun y => .ret (x ++ y)

theorem allT_run {f : Nat → Tree (List St)} : ∀ {l : List Nat} {z : List St}, (allT f l).run = some z → ∀ i ∈ l, ∃ x, (f i).run = some x ∧ ∀ y ∈ x, y ∈ z
  | [], _, _, i, hi => by cases hi
  | k :: l, z, h, i, hi => by
    simp only [allT] at h
    obtain ⟨x, h1, h2⟩ := Tree.run_bind_some h
    obtain ⟨y, h3, h4⟩ := Tree.run_bind_some h2
    simp only [Tree.run, Option.some.injEq] at h4; subst h4
    rcases List.mem_cons.1 hi with rfl | hi
    · exact ⟨x, h1, fun q hq => List.mem_append_left _ hq⟩
    · obtain ⟨x', h5, h6⟩ := allT_run h3 i hi
      exact ⟨x', h5, fun q hq => List.mem_append_right _ (h6 q hq)⟩

def drawL (P : Program) (T : FuncId → Option Summ) (N : Nat) (ops : Array Oper) : Nat → Array Bool → PendA → St → Tree (List St)
  | 0, listed, _, st => bif (Region.ready .any ops listed).isEmpty then .ret [st] else .fail
  | fuel + 1, listed, pend, st => match Region.ready .any ops listed with
    | [] => .ret [st]
    | r :: rs => match pickSil ops (r :: rs) with
      | some i => match ops[i]? with
        | none => .fail
        | some o => bif Region.free .any ops listed i && dstOk N o.dst then
            guardT ops o st.env
              (fun env => (sil P st.hp env o).bind fun av => drawL P T N ops fuel (listed.setIfInBounds i true) (bif isLoad o then (i, loadRange P st.hp env o) :: pend else pend) ⟨putE o.dst av env, st.hp⟩)
              (fun env => drawL P T N ops fuel (listed.setIfInBounds i true) pend ⟨putE o.dst (.t []) env, st.hp⟩)
          else .fail
      | none => allT (fun r => match ops[r]? with
          | none => .fail
          | some o => bif dstOk N o.dst then
              guardT ops o st.env
                (fun env => match act P T st.hp env o with
                  | some x => .ite x.ck (bif clearA x.wr (keepA ops r pend) then drawL P T N ops fuel (listed.setIfInBounds r true) (keepA ops r pend) ⟨putE o.dst (rvA x.res) env, x.hp⟩ else .fail) .fail
                  | none => .fail)
                (fun env => drawL P T N ops fuel (listed.setIfInBounds r true) (keepA ops r pend) ⟨putE o.dst (.t []) env, st.hp⟩)
            else .fail) (r :: rs)

theorem drawL_wp (hT : TOkAt P T w0 S) {ops : Array Oper} (hs : Region.noSelect ops = true) {Q : Exit → Act → World → Prop} 
    (hQp : ∀ (c : List PanicEntry) (a : Act) (d : Option Tmp) (v : Value) (w : World), Q (.panic c) (a.put d v) w → Q (.panic c) a w) :
    ∀ (fuel : Nat) (listed : Array Bool) (pend : PendA) (D : Pend) (st : St) (r : Loc) (a : Act) (w : World) (z : List St), (drawL P T N ops fuel listed pend st).run = some z → (∀ x ∈ z, ∀ r' a' w', Conc N w0 S m r0 r' x a' w' → Q .normal a' w') → Conc N w0 S m r0 r st a w →
      PD r st.hp w pend D → wpAnyD P .any ops Q fuel listed D a w
  | 0, listed, pend, D, st, r, a, w, z, h, hQ, hc, _ => by
    simp only [drawL] at h
    cases hr : (Region.ready .any ops listed).isEmpty with
    | false => rw [hr] at h; cases h
    | true =>
      rw [hr] at h
      simp only [cond_true, Tree.run, Option.some.injEq] at h; subst h
      exact ⟨by simpa using hr, hQ st List.mem_cons_self r a w hc⟩
  | fuel + 1, listed, pend, D, st, r, a, w, z, h, hQ, hc, hpd => by
    simp only [drawL] at h
    split at h
    · rename_i hr
      simp only [Tree.run, Option.some.injEq] at h; subst h
      exact wpAnyD_done hr (hQ st List.mem_cons_self r a w hc) _
    · rename_i r1 rs hr
      split at h
      · -- a quiet one, taken first
        rename_i i hi
        obtain ⟨hmem, o, ho, hsil⟩ := pickSil_mem hi
        rw [← hr] at hmem
        rw [ho] at h
        simp only [] at h
        cases hb : (Region.free .any ops listed i && dstOk N o.dst) with
        | false => rw [hb] at h; cases h
        | true =>
          rw [hb] at h
          simp only [Bool.and_eq_true] at hb
          simp only [cond_true] at h
          obtain ⟨env', he, hl, hcase⟩ := guardT_spec h hc.env hc.elt
          rcases hcase with ⟨hw, hx⟩ | ⟨hw, hx⟩
          · obtain ⟨av, hav, h2⟩ := Tree.run_bind_some hx
            have hlt := sil_lt hl hc.mem.hlt hav
            have hc' := hc.put he hl hb.2 hlt
            cases hlo : isLoad o with
            | false =>
              rw [hlo] at h2
              simp only [cond_false] at h2
              have := drawL_wp hT hs hQp fuel _ pend D _ r _ w z h2 hQ hc' hpd
              refine wpAnyD_take (C := fun _ => True) ho hs hb.1 hmem (fun c a' w' => hQp c a' _ _ w') (.inl ⟨hw, fun w' _ => sil_run hav he (fun e => by rw [hlo] at e; cases e)⟩) trivial hpd.now ?_
              exact wpAnyD_mono _ _ _ _ _ _ (fun p hp => by
                rcases List.mem_cons.1 hp with rfl | hp
                · exact .inr fun _ => trivial
                · exact .inl hp) this
            | true =>
              rw [hlo] at h2
              simp only [cond_true] at h2
              obtain ⟨t, y, j, off, x, hop, hy, hx', rfl, hrange⟩ := sil_load hlo hav
              obtain ⟨⟨l, hl', hle, hcs⟩, hload⟩ := loadA_range (r := r) hx'
              rw [hrange] at h2
              have hnow : w.rangeAt (r j).1 ((r j).2 + off) (denCells r x.cells) := by
                intro k v hv
                have h3 : (denCells r l)[off + k]? = some v := by
                  rw [hcs, denCells_take, denCells_drop, List.getElem?_take] at hv
                  split at hv
                  · rw [List.getElem?_drop] at hv; exact hv
                  · cases hv
                have := (hc.mem.heap j l hl').1 (off + k) v h3
                rwa [← Nat.add_assoc] at this
              have := drawL_wp hT hs hQp fuel _ ((i, j, off, x.cells.length) :: pend) ((i, fun w' => w'.rangeAt (r j).1 ((r j).2 + off) (denCells r x.cells)) :: D) _ r _ w z h2 hQ hc'
                ⟨rfl, hle.imp id (fun h => ⟨l, hl', h⟩), fun w' hw' => fun k v hv => by
                  have hk : k < x.cells.length := by have := (List.getElem?_eq_some_iff.1 hv).1; rwa [denCells_length] at this
                  have h4 := hw' k hk
                  simp only [] at h4
                  rw [Nat.add_assoc, h4, ← Nat.add_assoc]
                  exact hnow k v hv, hpd⟩
              refine wpAnyD_take ho hs hb.1 hmem (fun c a' w' => hQp c a' _ _ w') (.inl ⟨hw, fun w' hw' => ?_⟩) hnow hpd.now this
              obtain ⟨dst, op, type, pos, after, guard⟩ := o
              simp only at hop; subst hop
              simp only [execOp, evalO_den he hy, AV.den, Part.den, Cell.den, Instr.loadAt, Instr.sureAddr, Sem.run_bind, Sem.run_pure, Result.andThen_ok, hload w' hw']
          · have hc' := hc.put he hl hb.2 (av := .t []) (fun x hx => by cases hx)
            have := drawL_wp hT hs hQp fuel _ pend D _ r _ w z hx hQ hc' hpd
            refine wpAnyD_take (C := fun _ => True) ho hs hb.1 hmem (fun c a' w' => hQp c a' _ _ w') (.inr ⟨hw, rfl⟩) trivial hpd.now ?_
            exact wpAnyD_mono _ _ _ _ _ _ (fun p hp => by
                rcases List.mem_cons.1 hp with rfl | hp
                · exact .inr fun _ => trivial
                · exact .inl hp) this
      · -- those that act
        refine ⟨fun h0 => (by rw [hr] at h0; cases h0), fun i hi => ?_⟩
        rw [hr] at hi
        obtain ⟨z1, h1, hz1⟩ := allT_run h i hi
        have hQ1 : ∀ x ∈ z1, ∀ r' a' w', Conc N w0 S m r0 r' x a' w' → Q .normal a' w' := fun x hx => hQ x (hz1 x hx)
        split at h1
        · cases h1
        · rename_i o ho
          cases hd : dstOk N o.dst with
          | false => rw [hd] at h1; cases h1
          | true =>
            rw [hd] at h1
            simp only [cond_true] at h1
            obtain ⟨env', he, hl, hcase⟩ := guardT_spec h1 hc.env hc.elt
            unfold wpOp
            simp only [ho]
            rcases hcase with ⟨hw, hx⟩ | ⟨hw, hx⟩
            · simp only [hw, if_true]
              refine .inl ?_
              split at hx
              · rename_i x hxa
                obtain ⟨hck, hx⟩ := Tree.run_ck hx
                cases hcl : clearA x.wr (keepA ops i pend) with
                | false => rw [hcl] at hx; cases hx
                | true =>
                  rw [hcl] at hx
                  simp only [cond_true] at hx
                  refine act_wp hT hxa hck he hl hc.mem fun r' w' haft => ?_
                  have hpd' := PD.after haft (act_len hxa) (hpd.keep (ops := ops) (u := i)) hcl
                  exact ⟨hpd'.now, drawL_wp hT hs hQp fuel _ _ _ _ r' _ w' z1 hx hQ1 (hc.after he hl hd haft) hpd'⟩
              · cases hx
            · simp only [hw, Bool.false_eq_true, if_false]
              have hc' := hc.put he hl hd (av := .t []) (fun x hx => by cases hx)
              have hpd' := hpd.keep (ops := ops) (u := i)
              exact ⟨hpd'.now, drawL_wp hT hs hQp fuel _ _ _ _ r _ w z1 hx hQ1 hc' hpd'⟩

end

end Go.Sy
