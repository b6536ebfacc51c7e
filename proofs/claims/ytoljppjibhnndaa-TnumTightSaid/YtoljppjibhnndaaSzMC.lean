/-
  A symbolic machine for one call, with rows of any length: the operations of maps.
-/
import Derived.Test.YtoljppjibhnndaaSzMB
namespace Go.Sz
open Go Go.RowKit Go.Sy Go.MapKept
set_option linter.unusedVariables false
set_option linter.unusedSimpArgs false
set_option linter.constructorNameAsVariable false

def isMp : Option Ob → Bool
  | some (.mp ..) => true
  | _ => false
def isMapOp (H : Hf) (E : Ef) (o : Oper) : Bool := match o.op with
  | .makeMap .. => true
  | .mapUpdate .. => true
  | .insert .. => true
  | .lookup .. => true
  | .call c => match c.callee, c.args.toList with
    | .builtin .delete, _ => true
    | .builtin .len, [m] => match evalO E m with
      | some (.p (.one (.h j))) => isMp (H j)
      | _ => false
    | _, _ => false
  | _ => false

section
variable {P : Program} {w0 : World} {S : Nat → Nat → Prop} {R0 : Frag} {D : Nat → Prop} {H Hr : Hf} {F : Frag} {r : Loc} {w : World} {E : Ef}

theorem putMap_run (hs : ∀ j ob, Hr j = some ob → H j = some ob) (hm : Mem w0 S R0 D H F r w) {nx : Nat} {t : TypeId} {m k v : Operand} {eff : Eff} (h : (putMapT P Hr E t m k v).run = some eff) {a : Act} (he : EnvR F r E a) (hi : EnvIn D E) :
    ∃ w' F', (Instr.mapUpdate t (a.eval m) (a.eval k) (a.eval v)).run P w = .ok () w' ∧ After w0 S R0 D H F r nx eff F' r w' undef := by
  unfold putMapT at h
  split at h
  · rename_i j c q hem hek hev
    split at h
    · rename_i kt vt l hj
      split at h
      · rename_i e hmt
        obtain ⟨kid, ht, hkd, hkt⟩ := mapTy_spec hmt
        split at h
        · rename_i q' ups hdp
          split at h
          · rename_i x y hx hy
            cases hnk : noKey j ups with
            | false => rw [hnk] at h; cases h
            | true =>
              rw [hnk] at h
              simp only [cond_true, Tree.run, Option.some.injEq] at h; subst h
              obtain ⟨F', f1, m1, f3⟩ := deepP_spec hs hm hdp (evalO_inn hi hev)
              have hmv := evalO_rep he hem
              have hkv := evalO_rep he hek
              have hvv := evalO_rep he hev
              simp only [AV.rep, Part.rep, Cell.rep] at hmv
              have hj1 : (updH ups H) j = some (.mp kt vt l) := by rw [noKey_spec hnk]; exact hs _ _ hj
              obtain ⟨o1, es, clock, o2, o3, o4, o5⟩ := m1.obs j _ hj1
              have hkr : RepT F' kt x (a.eval k) := (ofCell_rep hx hkv).mono f1
              have hvr : RepV F' vt y (a.eval v) := ofPart_rep hy (f3 _ hvv)
              obtain ⟨es', c', g1, g2, g3, g4⟩ := mapUpdate_run ht hkd hkt o2 o3 o4 o5 hkr hvr
              refine ⟨_, F', by rw [hmv.1, o1]; exact g1, fun _ _ => rfl, f1, ?_, fun av hav => by cases hav⟩
              have := (m1.setMap hj1 o2 g2 g3 g4).monoD (D' := More D nx 0) (fun j h => .inl h)
              rw [← updH_append] at this
              exact this
          · cases h
        · cases h
      · cases h
    · cases h
  · cases h

theorem Mem.newMap (h : Mem w0 S R0 D H F r w) {nx : Nat} (hnx : ¬ D nx) (kt : Ty) (vt : Vt) :
    Mem w0 S R0 (fun j => D j ∨ j = nx) (updH [(nx, .mp kt vt [])] H) F (locPut r nx ⟨w.heap.size, 0, .map (some w.heap.size)⟩) (w.alloc (.map #[] 0)) := by
  have hB : Below w.heap.size w (w.alloc (.map #[] 0)) := (Below.refl _ _).alloc (Nat.le_refl _) _
  refine h.fresh' hnx (js := []) (fun j hj => by cases hj) (d := ⟨w.heap.size, 0, .map (some w.heap.size)⟩) (ob := .mp kt vt []) ⟨rfl, #[], 0, (heap_alloc w _).1, trivial, by simp, fun e he => by simp at he⟩ trivial (fun b o hfo => .inr ?_) (Fr.of_below hB _)
  have : b = w.heap.size := hfo
  omega

theorem map_out (hs : ∀ j ob, Hr j = some ob → H j = some ob) (hm : Mem w0 S R0 D H F r w) {nx : Nat} {eff : Eff} (hnx : ∀ j, nx ≤ j → j < nx + eff.nn → ¬ D j) {o : Oper} (h : (mapT P Hr E nx o).run = some eff) {a : Act} (he : EnvR F r E a) (hi : EnvIn D E) : Out P w0 S R0 D H F r nx eff o a w := by
  have same : ∀ {v : Value} {av : AV}, eff = ⟨some av, [], 0⟩ → av.rep F r v → av.inn D → (execOp a.eval o).run P w = .ok (.value v) w → Out P w0 S R0 D H F r nx eff o a w := fun e1 e2 e3 e4 => by
    subst e1
    exact ⟨_, _, w, F, r, e4, .inl rfl, fun _ _ => rfl, Frag.le_refl F, hm.monoD (fun j h => .inl h), fun av hav => by injection hav with hav; subst hav; exact ⟨e2, AV.inn_mono (fun j h => .inl h) e3⟩⟩
  unfold mapT at h
  split at h
  · -- makeMap
    rename_i t ho
    split at h
    · split at h
      · rename_i kt vt _ _
        simp only [Tree.run, Option.some.injEq] at h; subst h
        have hnx0 := hnx nx (Nat.le_refl _) (Nat.lt_succ_self _)
        refine ⟨_, .map (some w.heap.size), _, F, _, ?_, .inl rfl, locPut_agree r hnx0 _, Frag.le_refl F, (hm.newMap hnx0 kt vt).monoD (fun j => More_one), fun av hav => ?_⟩
        · simp only [execOp, ho, Option.map_none, Sem.run_bind, run_makeMap, Result.andThen_ok, Sem.run_pure]
        · injection hav with hav; subst hav
          exact ⟨⟨by rw [locPut_self], rfl⟩, More_one (.inr rfl)⟩
      · cases h
    · cases h
  · -- mapUpdate
    rename_i t m k v ho
    obtain ⟨w', F', g1, g2⟩ := putMap_run (nx := nx) hs hm h he hi
    exact ⟨.skip, undef, w', F', r, by simp only [execOp, ho, Sem.run_bind, g1, Result.andThen_ok, Sem.run_pure], .inr ⟨rfl, rfl⟩, g2⟩
  · -- insert
    rename_i t m k v ho
    obtain ⟨w', F', g1, g2⟩ := putMap_run (nx := nx) hs hm h he hi
    exact ⟨.skip, undef, w', F', r, by simp only [execOp, ho, Sem.run_bind, g1, Result.andThen_ok, Sem.run_pure], .inr ⟨rfl, rfl⟩, g2⟩
  · -- lookup
    rename_i t m k ok ho
    split at h
    · rename_i j c hem hek
      split at h
      · rename_i kt vt l hj
        split at h
        · rename_i e hmt
          obtain ⟨kid, ht, hkd, hkt⟩ := mapTy_spec hmt
          split at h
          · rename_i z hz
            split at h
            · rename_i d x hd hx
              have hmv := evalO_rep he hem
              have hkv := evalO_rep he hek
              simp only [AV.rep, Part.rep, Cell.rep] at hmv
              obtain ⟨o1, es, clock, o2, o3, o4, o5⟩ := hm.obs j _ (hs _ _ hj)
              obtain ⟨v, g1, g2⟩ := lookup_run (ok := ok) ht hkd hkt o2 o3 (ofCell_rep hx hkv) (pureSem_run hz w) (ofPart_rep hd (ofK1_rep F r z))
              rw [← o1, ← hmv.1] at g2
              cases ok with
              | true =>
                simp only [cond_true, Tree.run, Option.some.injEq] at h
                refine same (v := .tuple #[v, .bool (findM x l).isSome]) h.symm ⟨[v, .bool (findM x l).isSome], ⟨partOf_rep g1, rfl, trivial⟩, rfl⟩ (fun y hy => ?_) ?_
                · simp only [List.mem_cons, List.not_mem_nil, or_false] at hy
                  rcases hy with rfl | rfl
                  · exact partOf_inn D vt _
                  · trivial
                · simp only [execOp, ho, Sem.run_bind, g2, Result.andThen_ok, Sem.run_pure, if_true]
              | false =>
                simp only [cond_false, Tree.run, Option.some.injEq] at h
                refine same (v := v) h.symm (partOf_rep g1) (partOf_inn D vt _) ?_
                simp only [execOp, ho, Sem.run_bind, g2, Result.andThen_ok, Sem.run_pure]
                rfl
            · cases h
          · cases h
        · cases h
      · cases h
    · cases h
  · -- builtins
    rename_i c ho
    split at h
    · rename_i m t hcal hargs htys
      split at h
      · rename_i j hem
        split at h
        · rename_i kt vt l kid e hj hu
          simp only [Tree.run, Option.some.injEq] at h
          have hmv := evalO_rep he hem
          simp only [AV.rep, Part.rep, Cell.rep] at hmv
          obtain ⟨o1, es, clock, o2, o3, o4, o5⟩ := hm.obs j _ (hs _ _ hj)
          have ha : c.args.map a.eval = #[a.eval m] := by
            apply Array.ext'
            rw [Array.toList_map, hargs]; rfl
          have ht : c.argTypes = #[t] := by apply Array.ext'; rw [htys]
          refine same (v := goInt l.length) h.symm rfl trivial ?_
          have hlen : es.size = l.length := by have := entriesRep_len o3; simpa using this
          have hl : (Builtin.len_ #[t] o.type #[a.eval m]).run P w = .ok (goInt l.length) w := by
            rw [hmv.1, o1]
            simp [Builtin.len_, run_underlying hu, Result.andThen, Go.MapKept.run_getObj_map o2, hlen]
          simp only [execOp, ho, resolve, hcal, Sem.run_bind, Sem.run_pure, Result.andThen_ok, invoke, ha, ht, builtin, hl]
        · cases h
      · cases h
    · rename_i m k t t2 hcal hargs htys
      split at h
      · rename_i j c1 hem hek
        split at h
        · rename_i kt vt l hj
          split at h
          · rename_i e x hmt hx
            obtain ⟨kid, ht, hkd, hkt⟩ := mapTy_spec hmt
            simp only [Tree.run, Option.some.injEq] at h; subst h
            have hmv := evalO_rep he hem
            have hkv := evalO_rep he hek
            simp only [AV.rep, Part.rep, Cell.rep] at hmv
            obtain ⟨o1, es, clock, o2, o3, o4, o5⟩ := hm.obs j _ (hs _ _ hj)
            have ha : c.args.map a.eval = #[a.eval m, a.eval k] := by
              apply Array.ext'
              rw [Array.toList_map, hargs]; rfl
            have hts : c.argTypes = #[t, t2] := by apply Array.ext'; rw [htys]
            obtain ⟨es', g1, g2, g3, g4⟩ := delete_run (t2 := t2) (ty := o.type) ht hkd hkt o2 o3 o4 o5 (ofCell_rep hx hkv)
            rw [← o1, ← hmv.1] at g1
            refine ⟨_, .tuple #[], _, F, r, ?_, .inl rfl, fun _ _ => rfl, Frag.le_refl F, (hm.setMap (hs _ _ hj) o2 g2 g3 g4).monoD (fun j h => .inl h), fun av hav => ?_⟩
            · simp only [execOp, ho, resolve, hcal, Sem.run_bind, Sem.run_pure, Result.andThen_ok, invoke, ha, hts, builtin, g1]
            · injection hav with hav; subst hav
              exact ⟨⟨[], trivial, rfl⟩, fun x hx => by cases hx⟩
          · cases h
        · cases h
      · cases h
    · cases h
  · cases h
end
end Go.Sz
