/-
  Rounds over a map's keys: memory while an iterator lies beside it, a map that stands aside while a round runs.
-/
import Derived.Test.YtebimchjglckoaaSoV
import Derived.Maps.RangeRun
import Derived.Shelf.Abstract
import Derived.Test.YtebimchjglckoaaSzAI
namespace Go.Sz
open Go Go.RowKit Go.Sy
set_option linter.unusedVariables false
set_option linter.unusedSimpArgs false
set_option linter.constructorNameAsVariable false

/-- A block that is an iterator. -/
def IsIter (w : World) (b : Nat) : Prop := ∃ m s seen c, w.heap[b]? = some (.mapIter m s seen c)
theorem IsIter.cell {w : World} {b : Nat} (h : IsIter w b) (o : Nat) : w.cell? ⟨b, o, none⟩ = none := by
  obtain ⟨m, s, seen, c, h⟩ := h
  simp [World.cell?, h]
theorem IsIter.lt {w : World} {b : Nat} (h : IsIter w b) : b < w.heap.size := by
  obtain ⟨m, s, seen, c, h⟩ := h
  exact (Array.getElem?_eq_some_iff.1 h).1
theorem ObIs.notIter {F : Frag} {r : Loc} {d : Ld} {w : World} {ob : Ob} (h : ObIs F r d w ob) {b o : Nat} (hf : ob.foot d b o) (hb : IsIter w b) : False := by
  have hc := hb.cell
  cases ob with
  | lit l =>
    obtain ⟨vs, _, _, h3, _⟩ := h
    obtain ⟨rfl, h1, h2⟩ := hf
    have h4 := (h3 (o - d.o) (by omega)).1
    rw [hc] at h4; cases h4
  | row ts l =>
    obtain ⟨n, cap, e, rfl, h1, h2⟩ := hf
    rcases h with ⟨h, _⟩ | ⟨cap', h, _, _, h3, _⟩
    · rw [h] at e; cases e
    · rw [h] at e; injection e with _ _ e; subst e
      have h4 := (h3 (o - d.o) (by omega)).1
      rw [hc] at h4; cases h4
  | frz => exact hf.elim
  | dead => exact hf.elim
  | mp kt vt m =>
    obtain ⟨_, es, clock, h, _⟩ := h
    simp only [Ob.foot] at hf
    subst hf
    obtain ⟨_, _, _, _, hb⟩ := hb
    rw [h] at hb; cases hb

section
variable {w0 : World} {S : Nat → Nat → Prop} {R0 : Frag} {D D' : Nat → Prop} {H Hs Hs' : Hf} {F F' : Frag} {r r' : Loc} {w w' : World}

/-- Only an iterator's block has turned. -/
theorem Mem.iter (h : Mem w0 S R0 D H F r w) {b : Nat} (hb : IsIter w b) (hn : w0.heap.size ≤ b) (hg : Fr (fun b' _ => b' = b) w w') : Mem w0 S R0 D H F r w' := by
  refine ⟨fun j ob hj => (h.obs j ob hj).stay (D := D) (Frag.le_refl F) (fun _ _ => rfl) (h.scp j ob hj) hg (fun b' o hf e => ?_), h.dom, h.scp, h.disj, fun b' o v hv => ?_, h.fown, h.frame.trans hg (fun b' o hlt e => ?_), h.fresh, h.base, h.prov⟩
  · subst e; exact (h.obs j ob hj).notIter hf hb
  · have h1 := h.fin b' o v hv
    rw [hg.cell b' o (World.cell_lt w h1) (fun e => by subst e; rw [hb.cell] at h1; cases h1)]
    exact h1
  · subst e; omega

/-- Nothing that was there has turned. -/
theorem Mem.more (h : Mem w0 S R0 D H F r w) (hg : Fr (fun _ _ => False) w w') : Mem w0 S R0 D H F r w' := by
  refine ⟨fun j ob hj => (h.obs j ob hj).stay (D := D) (Frag.le_refl F) (fun _ _ => rfl) (h.scp j ob hj) hg (fun b' o hf e => e), h.dom, h.scp, h.disj, fun b' o v hv => ?_, h.fown, h.frame.trans hg (fun b' o hlt e => e.elim), h.fresh, h.base, h.prov⟩
  have h1 := h.fin b' o v hv
  rw [hg.cell b' o (World.cell_lt w h1) (fun e => e)]
  exact h1

/-- Some of the objects, from here on. -/
theorem Mem.hide (h : Mem w0 S R0 D H F r w) (hs : ∀ j ob, Hs j = some ob → H j = some ob) : Mem w (OwnL Hs r) F D Hs F r w :=
  ⟨fun j ob hj => h.obs j ob (hs j ob hj), fun j ob hj => h.dom j ob (hs j ob hj), fun j ob hj => h.scp j ob (hs j ob hj), fun j j' ob ob' b o hj hj' => h.disj j j' ob ob' b o (hs _ _ hj) (hs _ _ hj'), h.fin, fun b o v j ob hv hj => h.fown b o v j ob hv (hs _ _ hj),
    Fr.refl _ _, fun j ob b o hj hf => .inr ⟨j, ob, hj, hf⟩, Frag.le_refl F, fun b o v hv => .inl hv⟩

/-- And back: an object that was not among them stands as it stood. -/
theorem Mem.back (h : Mem w0 S R0 D H F r w) (hs : ∀ j ob, Hs j = some ob → H j = some ob) (k : Mem w (OwnL Hs r) F D' Hs' F' r' w') {j0 : Nat} {ob0 : Ob} (hj : H j0 = some ob0) (hl : isLit ob0 = false) (hn : Hs j0 = none) (hD : D' j0) (hr : r' j0 = r j0) :
    Mem w0 S R0 D' (fun j => if j = j0 then some ob0 else Hs' j) F' r' w' ∧ ∀ b o, ob0.foot (r j0) b o → w'.heap[b]? = w.heap[b]? ∨ ∃ o', OwnL Hs r b o' := by
  have hap : ∀ b o, ob0.foot (r j0) b o → ¬ OwnL Hs r b o := by
    rintro b o hf ⟨j, ob, h1, h2⟩
    refine h.disj j0 j ob0 ob b o hj (hs _ _ h1) (fun e => ?_) hf h2
    subst e; rw [hn] at h1; cases h1
  have hown : ∀ b o, OwnL Hs r b o → w0.heap.size ≤ b ∨ S b o := fun b o ⟨j, ob, h1, h2⟩ => h.fresh j ob b o (hs _ _ h1) h2
  have hlt : ∀ b o, ob0.foot (r j0) b o → b < w.heap.size := fun b o hf => (h.obs j0 ob0 hj).lt hf
  have hdis : ∀ j ob b o, Hs' j = some ob → ob.foot (r' j) b o → ob0.foot (r j0) b o → False := fun j ob b o h1 h2 h3 => by
    rcases k.fresh j ob b o h1 h2 with g | g
    · exact absurd (hlt b o h3) (by omega)
    · exact hap b o h3 g
  refine ⟨⟨?_, ?_, ?_, ?_, k.fin, ?_, h.frame.trans k.frame (fun b o hb ho => (hown b o ho).resolve_left (by omega)), ?_, Frag.le_trans h.base k.base, ?_⟩, fun b o hf => ?_⟩
  · intro j ob hj'
    by_cases e : j = j0
    · subst e
      rw [if_pos rfl] at hj'
      injection hj' with hj'; subst hj'
      rw [hr]
      exact ((h.obs j _ hj).anyLoc (r' := r') hl).stay (D := fun _ => True) k.base (fun _ _ => rfl) (inn_ob hl _) k.frame hap
    · rw [if_neg e] at hj'; exact k.obs j ob hj'
  · intro j ob hj'
    by_cases e : j = j0
    · subst e; exact hD
    · rw [if_neg e] at hj'; exact k.dom j ob hj'
  · intro j ob hj'
    by_cases e : j = j0
    · rw [if_pos e] at hj'
      injection hj' with hj'; subst hj'
      exact inn_ob hl _
    · rw [if_neg e] at hj'; exact k.scp j ob hj'
  · intro j j' ob ob' b o h1 h2 hne f1 f2
    by_cases e : j = j0 <;> by_cases e' : j' = j0
    · exact hne (e.trans e'.symm)
    · rw [if_pos e] at h1; rw [if_neg e'] at h2
      injection h1 with h1; subst h1; subst e
      rw [hr] at f1
      exact hdis j' ob' b o h2 f2 f1
    · rw [if_neg e] at h1; rw [if_pos e'] at h2
      injection h2 with h2; subst h2; subst e'
      rw [hr] at f2
      exact hdis j ob b o h1 f1 f2
    · rw [if_neg e] at h1; rw [if_neg e'] at h2
      exact k.disj j j' ob ob' b o h1 h2 hne f1 f2
  · intro b o v j ob hv hj' hf
    by_cases e : j = j0
    · rw [if_pos e] at hj'
      injection hj' with hj'; subst hj'; subst e
      rw [hr] at hf
      rcases k.prov b o v hv with g | g | g
      · exact h.fown b o v j _ g hj hf
      · exact hap b o hf g
      · exact absurd (hlt b o hf) (by omega)
    · rw [if_neg e] at hj'; exact k.fown b o v j ob hv hj' hf
  · intro j ob b o hj' hf
    by_cases e : j = j0
    · rw [if_pos e] at hj'
      injection hj' with hj'; subst hj'; subst e
      rw [hr] at hf
      exact h.fresh j _ b o hj hf
    · rw [if_neg e] at hj'
      rcases k.fresh j ob b o hj' hf with g | g
      · exact .inl (Nat.le_trans h.frame.size g)
      · exact hown b o g
  · intro b o v hv
    rcases k.prov b o v hv with g | g | g
    · exact h.prov b o v g
    · exact .inr ((hown b o g).symm)
    · exact .inr (.inr (Nat.le_trans h.frame.size g))
  · by_cases g : ∃ o', OwnL Hs r b o'
    · exact .inr g
    · exact .inl (k.frame.block b (hlt b o hf) fun o' ho => g ⟨o', ho⟩)
end

/-! ### Operations of a region, some of them -/
def stepsT (P : Program) (T : FuncId → Option Summ) (N : Nat) (ops : Array Oper) : List Oper → St → Tree St
  | [], st => .ret st
  | o :: l, st => (stepT P T N ops o st).bind (stepsT P T N ops l)
section
variable {P : Program} {T : FuncId → Option Summ} {N : Nat} {w0 : World} {S : Nat → Nat → Prop} {R0 : Frag} {m : Nat} {r0 : Loc}
theorem stepsT_wp {K : Know} (hT : TOk K P T) (hk : K.ok R0) {ops : Array Oper} {Q : Exit → Act → World → Prop} {st' : St} (post : List Nat) :
    ∀ (rest pre : List Oper) (n : Nat) (st : St) (F : Frag) (r : Loc) (a : Act) (w : World), (∀ i o, rest[i]? = some o → ops[n + i]? = some o) → (stepsT P T N ops rest st).run = some st' → Conc N w0 S R0 m r0 st F r a w →
      (∀ F' r' a' w', Conc N w0 S R0 m r0 st' F' r' a' w' → wpOps P ops Q post a' w') → wpOps P ops Q (List.range' n rest.length ++ post) a w
  | [], pre, n, st, F, r, a, w, _, h, hc, hQ => by
    simp only [stepsT, Tree.run, Option.some.injEq] at h; subst h
    simpa using hQ F r a w hc
  | o :: l, pre, n, st, F, r, a, w, ho, h, hc, hQ => by
    simp only [stepsT] at h
    obtain ⟨st1, h1, h2⟩ := Tree.run_bind_some h
    have hget : ops[n]? = some o := by simpa using ho 0 o rfl
    rw [List.length_cons, List.range'_succ, List.cons_append, wpOps_cons]
    unfold wpOp
    rw [hget]
    simp only []
    exact stepT_wp hT hk h1 hc fun F' r' a' w' hc' => stepsT_wp hT hk post l pre (n + 1) st1 F' r' a' w' (fun i o hi => by
      have := ho (i + 1) o (by simpa using hi)
      rw [show n + 1 + i = n + (i + 1) by omega]; exact this) h2 hc' hQ
/-- One operation by hand. -/
theorem wpOps_one {ops : Array Oper} {Q : Exit → Act → World → Prop} {n : Nat} {post : List Nat} {o : Oper} (ho : ops[n]? = some o) (hg : o.guard = none) {a : Act} {w w' : World} {v : Value} (hr : (execOp a.eval o).run P w = .ok (.value v) w') (h : wpOps P ops Q post (a.put o.dst v) w') :
    wpOps P ops Q (n :: post) a w := by
  rw [wpOps_cons]
  unfold wpOp
  rw [ho]
  simp only [Region.wanted, hg, if_true]
  refine .inl ?_
  unfold Oper.wp
  rw [hr]
  exact h
end

/-! ### What an iterator has left -/
theorem leftOf_push {es : Array MapEntry} {seen : Array Nat} {e : MapEntry} (hn : (es.toList.map (·.born)).Nodup) (he : e ∈ (leftOf es seen).toList) : (leftOf es seen).toList.Perm (e :: (leftOf es (seen.push e.born)).toList) := by
  have h1 : ∀ s, (leftOf es s).toList = es.toList.filter fun e => !s.contains e.born := fun s => by unfold leftOf; rw [Array.toList_filter]
  rw [h1] at he ⊢
  rw [h1]
  have h2 : (es.toList.filter fun x => !(seen.push e.born).contains x.born) = (es.toList.filter fun x => !seen.contains x.born).filter fun x => !(x.born == e.born) := by
    rw [List.filter_filter]
    congr 1; funext x
    rw [contains_push]
    cases seen.contains x.born <;> cases (x.born == e.born) <;> rfl
  rw [h2]
  have hn' : ((es.toList.filter fun x => !seen.contains x.born).map (·.born)).Nodup := hn.sublist ((List.filter_sublist).map _)
  generalize (es.toList.filter fun x => !seen.contains x.born) = L at he hn'
  clear h2 hn h1
  induction L with
  | nil => cases he
  | cons x L ih =>
    simp only [List.map_cons, List.nodup_cons] at hn'
    by_cases hx : x.born = e.born
    · have hxe : x = e := by
        rcases List.mem_cons.1 he with h | h
        · exact h.symm
        · exact absurd (List.mem_map.2 ⟨e, h, hx.symm⟩) hn'.1
      subst hxe
      have : (x :: L).filter (fun y => !(y.born == x.born)) = L := by
        rw [List.filter_cons_of_neg (by simp)]
        refine List.filter_eq_self.2 fun y hy => ?_
        have : y.born ≠ x.born := fun e => hn'.1 (List.mem_map.2 ⟨y, hy, e⟩)
        simp [this]
      rw [this]
    · have he' : e ∈ L := by
        rcases List.mem_cons.1 he with h | h
        · exact absurd (by rw [h]) hx
        · exact h
      rw [List.filter_cons_of_pos (by simp [hx])]
      exact (List.Perm.cons x (ih he' hn'.2)).trans (List.Perm.swap _ _ _)

/-! ### Contracts of functions that have code -/
theorem SummOk.calls {K : Know} {P : Program} {f : FuncId} {fn : Func} {c : Code} {s : Summ} (h : SummOk K P f s) (hf : P.funcs[f]? = some fn) (hn : (fn.name == "runtime.NumGoroutine") = false) (hb : fn.body = some c) :
    ∀ (args : List AV) (H H' : List Ob) (v : AV), (s.g args H).run = some (v, H') → s.ck args H = true →
    ∀ (F : Frag) (r : Loc) (w : World) (us : List Value), K.ok F → Pre F r H w → avsRep F r args us → (∀ a ∈ args, a.inn fun j => j < H.length) →
      Calls P f us.toArray w (Post F r H w v H') := by
  rcases h with h | h
  · intro args H H' v hg hck F r w us hk hpre ha hi
    obtain ⟨u, h1, _⟩ := h args H H' v hg hck F r w us hk hpre ha hi
    have := Go.Proofs.enters_of hf hn hb us.toArray w
    rw [this] at h1
    cases h1
  · exact h.2
noncomputable def sortS0 : Summ := sumT [.any] false [.c (.h 0)] [.row i64T] fun _ y => match y with
  | (l, ()) => ckP (l.length ≤ 1000000) (.ret (AV.t [], [.row i64T (sorted l)]))
/-- slices.Sort of a row of numbers, an empty one (a nil one) too. -/
theorem sort0_ok {K : Know} {P : Program} {f : FuncId} {fn : Func} {c : Code} (hf : P.funcs[f]? = some fn) (hn : (fn.name == "runtime.NumGoroutine") = false) (hb : fn.body = some c) {s : Summ} (h1 : SummOk K P f sortS) (h2 : SummOk K P f s)
    (h3 : (s.g [AV.c (.h 0)] [.row i64T []]).run = some (AV.t [], [.row i64T []])) (h4 : s.ck [AV.c (.h 0)] [.row i64T []] = true) : SummOk K P f sortS0 := by
  refine .inr ⟨⟨fn, hf, hn, by rw [hb]; rfl⟩, fun args H H' v hg _ F r w us hk hpre ha hi => ?_⟩
  simp only [sortS0, sumT] at hg
  split at hg
  · rename_i x y hx hy
    obtain ⟨rfl, rfl⟩ := one_row hx hy
    obtain ⟨l, _⟩ := y
    obtain ⟨hl, hg⟩ := ckP_run hg
    change l.length ≤ 1000000 at hl
    by_cases h0 : 0 < l.length
    · refine h1.calls hf hn hb _ _ H' v ?_ rfl F r w us hk hpre ha hi
      simp only [sortS, sumT, hx, hy]
      refine Eq.trans ?_ hg
      exact goC ⟨h0, hl⟩
    · have e : l = [] := List.eq_nil_of_length_eq_zero (by omega)
      subst e
      have e2 : sorted [] = [] := by simp [sorted]
      rw [e2] at hg
      have hg := Option.some.inj hg
      simp only [Prod.mk.injEq] at hg
      obtain ⟨rfl, rfl⟩ := hg
      exact h2.calls hf hn hb _ _ _ _ h3 h4 F r w us hk hpre ha hi
  · cases hg
theorem sorted_perm' {l l' : I64s} (h : l.Perm l') (hs : l'.Pairwise fun a b => a.1 < b.1) : sorted l = l' := by
  have e : ∀ {a b : List Int}, a.Pairwise (· ≤ ·) → b.Pairwise (· ≤ ·) → a.Perm b → a = b := fun ha hb hp => List.Perm.eq_of_pairwise (fun a b _ _ h1 h2 => by omega) ha hb hp
  have h1 : ((l.map (·.1)).mergeSort fun x y => decide (x ≤ y)) = l'.map (·.1) := by
    refine e ?_ ?_ ?_
    · have := List.pairwise_mergeSort (le := fun (x y : Int) => decide (x ≤ y)) (fun a b c h1 h2 => by simp at *; omega) (fun a b => by simp; omega) (l.map (·.1))
      exact this.imp fun h => by simpa using h
    · exact (List.pairwise_map.2 (hs.imp fun h => Int.le_of_lt h))
    · exact (List.mergeSort_perm _ _).trans (h.map _)
  unfold sorted
  rw [h1, List.map_map]
  exact List.map_id _
/-! ### Parts of code -/
def opsAt (c : Code) (p : List Nat) : Array Oper := match subAt c p with
  | some (.region _ ops _) => ops
  | _ => #[]
def opAt (c : Code) (p : List Nat) (i : Nat) : Oper := (opsAt c p)[i]!
end Go.Sz
