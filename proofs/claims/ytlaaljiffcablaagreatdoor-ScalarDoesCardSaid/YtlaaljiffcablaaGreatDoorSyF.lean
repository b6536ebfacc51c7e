/-
  A symbolic machine for one call: the operations that act, and one step of a region.
-/
import Derived.Test.YtlaaljiffcablaaGreatDoorSyE
namespace Go.Sy
open Go Go.RowKit

structure Act' where
  res : Option AV
  hp : Hp
  /-- the ranges that were written: object, place, number of cells -/
  wr : List (Nat × Nat × Nat)
  /-- what must hold -/
  ck : Bool

def evalAll (env : Env) : List Operand → Option (List AV)
  | [] => some []
  | x :: l => match evalO env x, evalAll env l with
    | some a, some as => some (a :: as)
    | _, _ => none

def capAV : Option (Nat × Nat) × Value → AV
  | (some (j, o), _) => AV.c (.p j o)
  | (none, v) => ofV v

def back (js : List (Nat × Nat × Nat)) : AV → Option AV
  | .p (.one (.p k o)) => match nth js k with
    | some (j, off, _) => some (AV.c (.p j (off + o)))
    | none => none
  | .p (.one (.s k o sz len cap)) => match nth js k with
    | some (j, off, _) => some (AV.c (.s j (off + o) sz len cap))
    | none => none
  | a => match a.toV with
    | some _ => some a
    | none => none

def act (P : Program) (T : FuncId → Option Summ) (hp : Hp) (env : Env) (o : Oper) : Option Act' :=
  match o.op with
  | .alloc t => match pureSem P (zeroValue t) with
    | some v => bif okAll (ofK1 v).cells then some ⟨some (AV.c (.p hp.length 0)), hp ++ [(ofK1 v).cells], [], true⟩ else none
    | none => none
  | .box _ x => match evalO env x with
    | some (.p q) => bif okAll q.cells then some ⟨some (AV.c (.p hp.length 0)), hp ++ [q.cells], [], true⟩ else none
    | _ => none
  | .store t a x => match evalO env a, evalO env x, pureSem P (sizeOf t) with
    | some (.p (.one (.p j off))), some (.p q), some n => bif Nat.beq q.cells.length n && okAll q.cells then match setR hp j off q.cells with
        | some hp' => some ⟨none, hp', [(j, off, q.cells.length)], true⟩
        | none => none
      else none
    | _, _, _ => none
  | .call c => match c.callee with
    | .value f => match evalO env f, evalAll env c.args.toList with
      | some (.p (.one (.clo g caps))), some as => match T g with
        | some s => match splitArgs hp (as ++ caps.map capAV) s.ptrs 0 with
          | some sp => bif apartAll sp.js then match s.g sp.args sp.hs with
              | some (v, hs') => match back sp.js v, wb hp sp.js hs' with
                | some v', some hp' => some ⟨some v', hp', sp.js, s.ck sp.args sp.hs⟩
                | _, _ => none
              | none => none
            else none
          | none => none
        | none => none
      | _, _ => none
    | _ => none
  | _ => none

theorem evalAll_den {r : Loc} {env : Env} {a : Act} (he : EnvOk r env a) : ∀ {l : List Operand} {as : List AV}, evalAll env l = some as → l.map a.eval = as.map (AV.den r)
  | [], as, h => by simp [evalAll] at h; subst h; rfl
  | x :: l, as, h => by
    simp only [evalAll] at h
    split at h
    · rename_i b bs hb hbs
      injection h with h; subst h
      simp only [List.map_cons, evalO_den he hb, evalAll_den he hbs]
    · cases h

theorem capAV_den (r : Loc) (x : Option (Nat × Nat) × Value) : (capAV x).den r = denCap r x := by
  obtain ⟨o, v⟩ := x
  cases o with
  | none => exact ofV_den r v
  | some jo => rfl

theorem back_den {r : Loc} {js : List (Nat × Nat × Nat)} {v v' : AV} (h : back js v = some v') : v'.den r = v.den (rs r js) := by
  unfold back at h
  split at h
  · rename_i k o
    split at h
    · rename_i j off n hj
      injection h with h; subst h
      rw [nth_eq] at hj
      simp [AV.den, Part.den, Cell.den, rs_get hj, Nat.add_assoc]
    · cases h
  · rename_i k o sz len cap
    split at h
    · rename_i j off n hj
      injection h with h; subst h
      rw [nth_eq] at hj
      simp [AV.den, Part.den, Cell.den, rs_get hj, Nat.add_assoc]
    · cases h
  · split at h
    · rename_i v0 hv0
      injection h with h; subst h
      rw [AV.den_toV hv0, AV.den_toV hv0]
    · cases h

theorem back_lt {hp hs : Hp} {js : List (Nat × Nat × Nat)} (hR : Ranges hp js hs) {v v' : AV} (h : back js v = some v') : v'.lt hp.length := by
  unfold back at h
  split at h
  · rename_i k o
    split at h
    · rename_i j off n hj
      injection h with h; subst h
      rw [nth_eq] at hj
      obtain ⟨l, cs, vs, hl, _⟩ := hR.2 k j off n hj
      exact (List.getElem?_eq_some_iff.1 hl).1
    · cases h
  · rename_i k o sz len cap
    split at h
    · rename_i j off n hj
      injection h with h; subst h
      rw [nth_eq] at hj
      obtain ⟨l, cs, vs, hl, _⟩ := hR.2 k j off n hj
      exact (List.getElem?_eq_some_iff.1 hl).1
    · cases h
  · split at h
    · rename_i v0 hv0
      injection h with h; subst h
      exact AV.toV_lt hv0
    · cases h

theorem newVar_run (P : Program) (t : TypeId) (v : Value) (w : World) : (newVar t v).run P w = .ok ⟨w.heap.size, 0, none⟩ (w.alloc (.cells v.cells t)) := by
  simp [newVar, newRow]

def rvDen (r : Loc) : Option AV → Value
  | none => undef
  | some v => v.den r

/-- What holds behind an operation that acts. -/
structure After (w0 : World) (S : Nat → Nat → Prop) (m : Nat) (r0 r : Loc) (hp : Hp) (w : World) (x : Act') (r' : Loc) (w' : World) : Prop where
  agree : Loc.agree hp.length r r'
  mem : Mem w0 S m r0 r' x.hp w'
  le : hp.length ≤ x.hp.length
  lt : ∀ v, x.res = some v → v.lt x.hp.length
  keeps : ∀ (j off n : Nat) (l : List Cell), hp[j]? = some l → off + n ≤ l.length → (∀ y ∈ x.wr, apart1 (j, off, n) y = true) → ∀ i, i < n →
    w'.cell? ⟨(r j).1, (r j).2 + (off + i), none⟩ = w.cell? ⟨(r j).1, (r j).2 + (off + i), none⟩

theorem act_wp {P : Program} {T : FuncId → Option Summ} {w0 : World} {S : Nat → Nat → Prop} (hT : TOkAt P T w0 S) {hp : Hp} {env : Env} {o : Oper} {x : Act'} (h : act P T hp env o = some x) (hck : x.ck = true)
    {m : Nat} {r0 r : Loc} {a : Act} {w : World} (he : EnvOk r env a) (hel : ∀ k av, look env k = some av → av.lt hp.length) (hm : Mem w0 S m r0 r hp w)
    {K : Act → World → Prop} {Q : Exit → Act → World → Prop} (hK : ∀ r' w', After w0 S m r0 r hp w x r' w' → K (a.put o.dst (rvDen r' x.res)) w') : o.wp P a w K Q := by
  obtain ⟨dst, op, type, pos, after, guard⟩ := o
  unfold act at h
  unfold Oper.wp
  split at h
  · -- alloc
    rename_i t ho
    simp only at ho; subst ho
    split at h
    · rename_i v hv
      cases hok : okAll (ofK1 v).cells with
      | false => rw [hok] at h; cases h
      | true =>
        rw [hok] at h
        simp only [cond_true, Option.some.injEq] at h; subst h
        have hc : v.cells = (denCells r (ofK1 v).cells).toArray := by rw [← Part.cells_den (r := r) hok, ofK1_den]
        have hcl : ∀ c ∈ (ofK1 v).cells, c.lt hp.length := Part.cells_lt (ofK1_lt _ v)
        simp only [execOp, Instr.alloc, Sem.run_bind, pureSem_run hv, Result.andThen_ok, newVar_run, Sem.run_pure, Oper.upon]
        rw [hc]
        have := hK (locPut r hp.length (w.heap.size, 0)) _ ⟨locPut_agree r _ _, hm.alloc _ hcl t, by simp, fun v' hv' => by
          injection hv' with hv'; subst hv'; show hp.length < _; simp, fun j off n l hl hle _ i hi => ((Below.refl _ _).alloc (Nat.le_refl _) _ : Below w.heap.size w _).cell (p := ⟨_, _, none⟩) (hm.heap.lt (i := off + i) hl (by omega))⟩
        simpa [rvDen, AV.den, Part.den, Cell.den, locPut] using this
    · cases h
  · -- box
    rename_i t y ho
    simp only at ho; subst ho
    split at h
    · rename_i q hq
      cases hok : okAll q.cells with
      | false => rw [hok] at h; cases h
      | true =>
        rw [hok] at h
        simp only [cond_true, Option.some.injEq] at h; subst h
        have hcl : ∀ c ∈ q.cells, c.lt hp.length := Part.cells_lt (evalO_lt hel hq)
        simp only [execOp, evalO_den he hq, AV.den, Instr.box, Sem.run_bind, Result.andThen_ok, newVar_run, Sem.run_pure, Oper.upon]
        rw [Part.cells_den hok]
        have := hK (locPut r hp.length (w.heap.size, 0)) _ ⟨locPut_agree r _ _, hm.alloc _ hcl t, by simp, fun v' hv' => by
          injection hv' with hv'; subst hv'; show hp.length < _; simp, fun j off n l hl hle _ i hi => ((Below.refl _ _).alloc (Nat.le_refl _) _ : Below w.heap.size w _).cell (p := ⟨_, _, none⟩) (hm.heap.lt (i := off + i) hl (by omega))⟩
        simpa [rvDen, AV.den, Part.den, Cell.den, locPut] using this
    · cases h
  · -- store
    rename_i t y z ho
    simp only at ho; subst ho
    split at h
    · rename_i j off q n hy hz hn
      cases hb : (Nat.beq q.cells.length n && okAll q.cells) with
      | false => rw [hb] at h; cases h
      | true =>
        rw [hb] at h
        simp only [Bool.and_eq_true] at hb
        have hlen : q.cells.length = n := Nat.eq_of_beq_eq_true hb.1
        simp only [cond_true] at h
        split at h
        · rename_i hp' hset
          injection h with h; subst h
          obtain ⟨l, hl, hle, hhp⟩ := setR_spec hset
          have hcl : ∀ c ∈ q.cells, c.lt hp.length := Part.cells_lt (evalO_lt hel hz)
          have hth : w.there (r j).1 ((r j).2 + off) (denCells r q.cells).length := by
            intro i hi
            rw [denCells_length] at hi
            have := (hm.heap j l hl).2 (off + i) (by omega)
            rwa [← Nat.add_assoc] at this
          have hrun := run_storeCells_cells (P := P) (r j).1 ((r j).2 + off) (denCells r q.cells) 0 w
            (fun i hi => by simpa using (hth i hi).1) (fun i hi => by simpa using (hth i hi).2) (okAll_den hb.2)
          simp only [Nat.add_zero] at hrun
          have hsz : (Part.den r q).cells.size = n := by rw [Part.cells_den hb.2]; simp [denCells_length, hlen]
          have hst : (Instr.storeAt t (.pointer (some ⟨(r j).1, (r j).2 + off, none⟩)) (Part.den r q)).run P w = .ok () (w.setCells (r j).1 ((r j).2 + off) (denCells r q.cells)) := by
            simp only [Instr.storeAt, Instr.sureAddr, Sem.run_bind, Sem.run_pure, Result.andThen_ok, storeVar, pureSem_run hn, hsz, ne_eq, not_true, if_false]
            rw [Part.cells_den hb.2]
            exact hrun
          simp only [execOp, evalO_den he hy, evalO_den he hz, AV.den, Part.den, Cell.den, Sem.run_bind] at *
          rw [hst]
          simp only [Result.andThen_ok, Sem.run_pure, Oper.upon]
          have hfr := Fr.setCells w (r j).1 ((r j).2 + off) (denCells r q.cells) hth
          rw [denCells_length] at hfr
          refine hK r _ ⟨fun _ _ => rfl, hm.set hset hcl (World.rangeAt_setCells_same w _ _ _ hth) hfr, by rw [hhp, List.length_set]; exact Nat.le_refl _, fun v hv => (by cases hv), fun j' off' n' l' hl' hle' hap i hi => ?_⟩
          refine hfr.cell _ _ (hm.heap.lt (i := off' + i) hl' (by omega)) ?_
          rintro ⟨e1, e2, e3⟩
          have h1 := apart1_spec (hap (j, off, q.cells.length) (by simp))
          simp only [] at h1
          by_cases hjj : j' = j
          · subst hjj
            rcases h1 with h1 | h1 | h1
            · exact h1 rfl
            · omega
            · omega
          · exact hm.disj j' j l' l (off' + i) ((r j').2 + (off' + i) - (r j).2) hl' hl hjj (by omega) (by omega) ⟨e1, by omega⟩
        · cases h
    · cases h
  · -- call
    rename_i c ho
    simp only at ho; subst ho
    split at h
    · rename_i f hf
      split at h
      · rename_i g caps as hg has
        split at h
        · rename_i s hs
          split at h
          · rename_i sp hsp
            cases hap : apartAll sp.js with
            | false => rw [hap] at h; cases h
            | true =>
              rw [hap] at h
              simp only [cond_true] at h
              split at h
              · rename_i v hs' hsg
                split at h
                · rename_i v' hp' hv' hwb
                  injection h with h; subst h
                  obtain ⟨hR, hargs⟩ := splitArgs_spec (r := r) _ _ _ _ hsp
                  obtain ⟨ha1, ha2⟩ := hargs [] rfl
                  simp only [List.nil_append] at ha1 ha2
                  have hargs' : (sp.args.map (AV.den (rs r sp.js))).toArray = #[] ++ c.args.map a.eval ++ (caps.map (denCap r)).toArray := by
                    rw [ha1, List.map_append, ← evalAll_den he has, List.map_map]
                    have : List.map (AV.den r ∘ capAV) caps = caps.map (denCap r) := List.map_congr_left fun y _ => capAV_den r y
                    rw [this]
                    apply Array.ext'
                    simp
                  have hl : hp'.length = hp.length := (wb_spec _ _ _ _ hwb).1
                  rcases hT g s hs with hext | ⟨⟨fn, hfn, hname, hbody⟩, hcall⟩
                  · obtain ⟨hrun, rfl, hvl⟩ := hext (rs r sp.js) sp.args sp.hs hs' v w hsg hck
                    rw [hargs'] at hrun
                    generalize hvv : AV.den (rs r sp.js) v = vv at hrun
                    simp only [execOp, resolve, hf, evalO_den he hg, AV.den, Part.den, Cell.den, Deferred.ofValue, Sem.run_bind, Sem.run_pure, Result.andThen_ok, invoke, Array.append_assoc] at hrun ⊢
                    simp only [hrun, Oper.upon]
                    have hmem := hm.call hR (hR.heap hm.heap) (Fr.refl _ _) rfl hwb
                    have := hK r w ⟨fun _ _ => rfl, hmem, Nat.le_of_eq hl.symm, fun y hy => by
                      injection hy with hy; subst hy
                      have := back_lt hR hv'
                      exact AV.lt_mono (Nat.le_of_eq hl.symm) this, fun j' off' n' l' hl' hle' hap' i hi => rfl⟩
                    simpa [rvDen, back_den hv', hvv] using this
                  have hlt : ∀ l ∈ sp.hs, ∀ c ∈ l, c.lt sp.hs.length := fun l hl c hc => by
                    obtain ⟨k, hk⟩ := List.mem_iff_getElem?.1 hl
                    obtain ⟨_, _, _, _, vs, _, _, _, _, hvs, _⟩ := hR.get hk
                    exact allV_lt hvs c hc
                  have hc := hcall (rs r sp.js) sp.args sp.hs hs' v w hsg hck (fun y hy => by have := ha2 y hy; rwa [hR.1] at this) hlt (hR.heap hm.heap) (hR.disj hap hm.disj) hm.frame (fun b o hb => hm.fresh b o (hR.rng hb))
                  rw [hargs'] at hc
                  simp only [execOp, resolve, hf, evalO_den he hg, AV.den, Part.den, Cell.den, Deferred.ofValue, Sem.run_bind, Sem.run_pure, Result.andThen_ok, invoke, callFunc, run_program, hfn, hname, hbody,
                    Bool.false_eq_true, if_false, Oper.upon]
                  refine hc.mono ?_
                  rintro e w' ⟨rfl, q1, q2, q3, q4⟩
                  simp only []
                  have hmem := hm.call hR q1 q2 q3 hwb
                  have := hK r w' ⟨fun _ _ => rfl, hmem, Nat.le_of_eq hl.symm, fun y hy => by
                    injection hy with hy; subst hy
                    have := back_lt hR hv'
                    exact AV.lt_mono (Nat.le_of_eq hl.symm) this, fun j' off' n' l' hl' hle' hap' i hi => by
                      refine q2.cell _ _ (hm.heap.lt (i := off' + i) hl' (by omega)) ?_
                      rintro ⟨k, cs, i', hk, hi', e1, e2⟩
                      obtain ⟨j, off, n, l, vs, b1, b2, b3, b4, b5, b6⟩ := hR.get hk
                      rw [rs_get b1] at e1 e2
                      simp only [] at e1 e2
                      have h1 := apart1_spec (hap' (j, off, n) (List.mem_of_getElem? b1))
                      simp only [] at h1
                      by_cases hjj : j' = j
                      · subst hjj
                        rcases h1 with h1 | h1 | h1
                        · exact h1 rfl
                        · omega
                        · omega
                      · exact hm.disj j' j l' l (off' + i) (off + i') hl' b2 hjj (by omega) (by omega) ⟨e1, by omega⟩⟩
                  simpa [rvDen, back_den hv'] using this
                · cases h
              · cases h
          · cases h
        · cases h
      · cases h
    · cases h
  · cases h

end Go.Sy
