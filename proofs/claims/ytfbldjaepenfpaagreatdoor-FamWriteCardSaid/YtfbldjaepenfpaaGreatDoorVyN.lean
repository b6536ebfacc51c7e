/-
  The verifier: answers of general contracts told in another form, with marks at numbers that are not known.
-/
import Derived.Test.YtfbldjaepenfpaaGreatDoorVyM
noncomputable section
namespace Go.Vy
open Go Go.RowKit Go.Sy Go.Sz
set_option linter.unusedVariables false
set_option linter.unusedSimpArgs false
/-! ### The cells of data -/
def kC : (t : Ty) → t.den → Cell
  | .w k, x => .w k x
  | .i k, n => .v (.int k n)
  | .b, x => .v (.bool x)
  | .str, s => .v (.string s)
  | .sl ts, l => .d ts l
def kCs : (ts : Tys) → ts.den → List Cell
  | .nil, _ => []
  | .cons t ts, x => kC t x.1 :: kCs ts x.2
def kRs (ts : Tys) : List ts.den → List Cell
  | [] => []
  | x :: l => kCs ts x ++ kRs ts l
section
variable {F : Frag} {r : Sz.Loc}
theorem kC_rep : ∀ {t : Ty} {x : t.den} {v : Value}, RepT F t x v ↔ (kC t x).rep F r v
  | .w _, _, _ => Iff.rfl
  | .i _, _, _ => Iff.rfl
  | .b, _, _ => Iff.rfl
  | .str, _, _ => Iff.rfl
  | .sl _, _, _ => Iff.rfl
theorem kCs_len : ∀ (ts : Tys) (x : ts.den), (kCs ts x).length = ts.len
  | .nil, _ => rfl
  | .cons t ts, x => by simp only [kCs, List.length_cons, kCs_len ts x.2, Tys.len]
theorem kRs_len (ts : Tys) : ∀ (l : List ts.den), (kRs ts l).length = l.length * ts.len
  | [] => by simp [kRs]
  | x :: l => by simp only [kRs, List.length_append, kCs_len, kRs_len ts l, List.length_cons, Nat.succ_mul]; omega
theorem kCs_of {w : World} : ∀ {ts : Tys} {b o : Nat} {x : ts.den}, RepC (memF w) F b o ts x → ∃ vs, cellsRep F r (kCs ts x) vs ∧ w.rangeAt b o vs ∧ (∀ v ∈ vs, v.oneCell' = true)
  | .nil, _, _, _, _ => ⟨[], trivial, fun j v h => by simp at h, fun v h => by cases h⟩
  | .cons t ts, b, o, x, h => by
    simp only [RepC] at h
    obtain ⟨⟨v, h1, h2⟩, h3⟩ := h
    obtain ⟨vs, g1, g2, g3⟩ := kCs_of h3
    refine ⟨v :: vs, ⟨kC_rep.1 h2, g1⟩, fun j u hj => ?_, fun u hu => ?_⟩
    · cases j with
      | zero => simp only [List.getElem?_cons_zero, Option.some.injEq] at hj; subst hj; exact h1
      | succ j =>
        have := g2 j u (by simpa using hj)
        rw [← this]; congr 1; simp only [Addr.mk.injEq, true_and, and_true]; omega
    · rcases List.mem_cons.1 hu with rfl | hu
      · exact h2.one
      · exact g3 u hu
theorem kRs_of {w : World} {ts : Tys} {b : Nat} : ∀ {l : List ts.den} {o : Nat}, (∀ i x, l[i]? = some x → RepC (memF w) F b (o + i * ts.len) ts x) →
    ∃ vs, cellsRep F r (kRs ts l) vs ∧ w.rangeAt b o vs ∧ (∀ v ∈ vs, v.oneCell' = true)
  | [], _, _ => ⟨[], trivial, fun j v h => by simp at h, fun v h => by cases h⟩
  | x :: l, o, h => by
    obtain ⟨us, a1, a2, a3⟩ : ∃ vs, cellsRep F r (kCs ts x) vs ∧ w.rangeAt b o vs ∧ (∀ v ∈ vs, v.oneCell' = true) := kCs_of (by simpa using h 0 x rfl)
    obtain ⟨vs, g1, g2, g3⟩ : ∃ vs, cellsRep F r (kRs ts l) vs ∧ w.rangeAt b (o + ts.len) vs ∧ (∀ v ∈ vs, v.oneCell' = true) := kRs_of fun i y hi => by
      have := h (i + 1) y (by simpa using hi)
      rw [Nat.succ_mul] at this
      rw [show o + ts.len + i * ts.len = o + (i * ts.len + ts.len) by omega]
      exact this
    have hl : us.length = ts.len := by rw [cellsRep_length a1, kCs_len]
    refine ⟨us ++ vs, cellsRep_append a1 g1, fun j u hj => ?_, fun u hu => ?_⟩
    · rcases Nat.lt_or_ge j us.length with hlt | hge
      · rw [List.getElem?_append_left hlt] at hj
        have := a2 j u hj
        rw [← this]
      · rw [List.getElem?_append_right hge] at hj
        have := g2 _ u hj
        rw [← this]; congr 1; simp only [Addr.mk.injEq, true_and, and_true]; omega
    · rcases List.mem_append.1 hu with hu | hu
      · exact a3 u hu
      · exact g3 u hu
theorem unpl {c : Cell} {u : Value} (h : (plC c).rep F r u) : c.rep F r u := by
  cases c <;> first | exact h | exact PV.cell_rep.1 h
theorem unplL : ∀ {l : List Cell} {vs : List Value}, cellsRep F r (l.map plC) vs → cellsRep F r l vs
  | [], [], h => h
  | [], _ :: _, h => h.elim
  | _ :: _, [], h => h.elim
  | _ :: _, _ :: _, h => ⟨unpl h.1, unplL h.2⟩
theorem unplP {c : Part} {u : Value} (h : (plP c).rep F r u) : c.rep F r u := by
  cases c with
  | one c => exact unpl h
  | many l => obtain ⟨vs, h1, h2⟩ := h; exact ⟨vs, unplL h1, h2⟩
theorem unplPs : ∀ {l : List Part} {vs : List Value}, partsRep F r (l.map plP) vs → partsRep F r l vs
  | [], [], h => h
  | [], _ :: _, h => h.elim
  | _ :: _, [], h => h.elim
  | _ :: _, _ :: _, h => ⟨unplP h.1, unplPs h.2⟩
theorem unplA {c : AV} {u : Value} (h : (plA c).rep F r u) : c.rep F r u := by
  cases c with
  | p c => exact unplP h
  | t l => obtain ⟨vs, h1, h2⟩ := h; exact ⟨vs, unplPs h1, h2⟩
theorem unin {D : Nat → Prop} {c : Cell} (h : (plC c).inn D) : c.inn D := by
  cases c <;> first | exact h | trivial
theorem uninL {D : Nat → Prop} {l : List Cell} (h : ∀ c ∈ l.map plC, c.inn D) : ∀ c ∈ l, c.inn D := fun c hc => unin (h _ (List.mem_map.2 ⟨c, hc, rfl⟩))
theorem uninP {D : Nat → Prop} {c : Part} (h : (plP c).inn D) : c.inn D := by
  cases c with
  | one c => exact unin h
  | many l => exact uninL h
theorem uninA {D : Nat → Prop} {c : AV} (h : (plA c).inn D) : c.inn D := by
  cases c with
  | p c => exact uninP h
  | t l => exact fun c hc => uninP (h _ (List.mem_map.2 ⟨c, hc, rfl⟩))
end
/-! ### Objects told in another form -/
structure RL (a b : Ob) : Prop where
  is : ∀ (F : Frag) (r : Sz.Loc) (d : Ld) (w : World), ObIs F r d w a → ObIs F r d w b
  foot : ∀ (d : Ld) (x y : Nat), b.foot d x y → a.foot d x y
  inn : ∀ D : Nat → Prop, a.inn D → b.inn D
theorem RL.refl (a : Ob) : RL a a := ⟨fun _ _ _ _ h => h, fun _ _ _ h => h, fun _ h => h⟩
theorem plains {D : Nat → Prop} : ∀ {ts : Tys} {x : ts.den}, ∀ c ∈ kCs ts x, c.inn D
  | .nil, _, c, h => by cases h
  | .cons t ts, x, c, h => by
    rcases List.mem_cons.1 h with rfl | h
    · cases t <;> trivial
    · exact plains c h
theorem plainsR {D : Nat → Prop} {ts : Tys} : ∀ {l : List ts.den}, ∀ c ∈ kRs ts l, c.inn D
  | [], c, h => by cases h
  | x :: l, c, h => by
    rcases List.mem_append.1 h with h | h
    · exact plains c h
    · exact plainsR c h
theorem RL.row {ts : Tys} {l : List ts.den} {sz n : Nat} {m : List Cell} (hs : ts.len = sz) (hn : l.length = n) (hm : m.map plC = kRs ts l) : RL (.row ts l) (.lr sz n m) := by
  subst hs hn
  refine ⟨fun F r d w h => ?_, fun d x y h => h, fun D _ => uninL (by rw [hm]; exact plainsR)⟩
  have hml : m.length = l.length * ts.len := by rw [← kRs_len, ← hm, List.length_map]
  rcases h with ⟨h1, h2⟩ | ⟨cap, h1, h2, h3, h4, h5⟩
  · subst h2
    refine .inl ⟨h1, rfl, ?_⟩
    simpa [kRs] using hm
  · obtain ⟨vs, g1, g2, g3⟩ : ∃ vs, cellsRep F r (kRs ts l) vs ∧ w.rangeAt d.b d.o vs ∧ (∀ v ∈ vs, v.oneCell' = true) := kRs_of h5
    exact .inr ⟨cap, vs, h1, hml, h2, h3, h4, unplL (by rw [hm]; exact g1), g2, g3⟩
section
variable {F : Frag} {r : Sz.Loc}
theorem rng_tail {w : World} {b o : Nat} {v : Value} {vs : List Value} (h : w.rangeAt b o (v :: vs)) : w.rangeAt b (o + 1) vs := fun j u hj => by
  have := h (j + 1) u (by simpa using hj)
  rw [← this]; congr 1; simp only [Addr.mk.injEq, true_and, and_true]; omega
theorem kCs_to {w : World} : ∀ {ts : Tys} {b o : Nat} {x : ts.den} {vs : List Value}, cellsRep F r (kCs ts x) vs → w.rangeAt b o vs → RepC (memF w) F b o ts x
  | .nil, _, _, _, _, _, _ => by simp only [RepC]
  | .cons t ts, b, o, x, [], h, _ => h.elim
  | .cons t ts, b, o, x, v :: vs, h, hr => by
    simp only [RepC]
    exact ⟨⟨v, by have := hr 0 v rfl; simpa [memF] using this, kC_rep.2 h.1⟩, kCs_to h.2 (rng_tail hr)⟩
theorem kRs_to {w : World} {ts : Tys} {b : Nat} : ∀ {l : List ts.den} {o : Nat} {vs : List Value}, cellsRep F r (kRs ts l) vs → w.rangeAt b o vs →
    ∀ i x, l[i]? = some x → RepC (memF w) F b (o + i * ts.len) ts x
  | [], _, _, _, _, i, x, h => by simp at h
  | y :: l, o, vs, h, hr, i, x, hi => by
    simp only [kRs] at h
    have h1 := cellsRep_take ts.len h
    have h2 := cellsRep_drop ts.len h
    rw [List.take_left' (kCs_len ts y)] at h1
    rw [List.drop_left' (kCs_len ts y)] at h2
    have r1 : w.rangeAt b o (vs.take ts.len) := fun j u hj => hr j u (by
      rw [List.getElem?_take] at hj
      split at hj
      · exact hj
      · cases hj)
    have r2 : w.rangeAt b (o + ts.len) (vs.drop ts.len) := fun j u hj => by
      have := hr (ts.len + j) u (by rw [List.getElem?_drop] at hj; exact hj)
      rw [← this]; congr 1; simp only [Addr.mk.injEq, true_and, and_true]; omega
    cases i with
    | zero =>
      simp only [List.getElem?_cons_zero, Option.some.injEq] at hi
      subst hi
      simpa using kCs_to h1 r1
    | succ i =>
      have := kRs_to h2 r2 i x (by simpa using hi)
      rw [Nat.succ_mul, show o + (i * ts.len + ts.len) = o + ts.len + i * ts.len by omega]
      exact this
end
theorem RL.unrow {ts : Tys} {l : List ts.den} {sz n : Nat} {m : List Cell} (hs : ts.len = sz) (hn : l.length = n) (hm : m.map plC = kRs ts l) : RL (.lr sz n m) (.row ts l) := by
  subst hs hn
  refine ⟨fun F r d w h => ?_, fun d x y h => h, fun D _ => trivial⟩
  rcases h with ⟨h1, h2, h3⟩ | ⟨cap, vs, h1, h2, h3, h4, h5, h6, h7, h8⟩
  · exact .inl ⟨h1, List.length_eq_zero_iff.1 h2⟩
  · exact .inr ⟨cap, h1, h3, h4, h5, kRs_to (r := r) (by rw [← hm]; exact plL_rep h6) h7⟩
theorem Mem.relabel {w0 : World} {S : Nat → Nat → Prop} {R0 : Frag} {D : Nat → Prop} {H H2 : Hf} {F : Frag} {r : Sz.Loc} {w : World} (hm : Mem w0 S R0 D H F r w) (h : ∀ j ob2, H2 j = some ob2 → ∃ ob, H j = some ob ∧ RL ob ob2) : Mem w0 S R0 D H2 F r w where
  obs j ob2 h2 := by obtain ⟨ob, h1, q⟩ := h j ob2 h2; exact q.is _ _ _ _ (hm.obs j ob h1)
  dom j ob2 h2 := by obtain ⟨ob, h1, q⟩ := h j ob2 h2; exact hm.dom j ob h1
  scp j ob2 h2 := by obtain ⟨ob, h1, q⟩ := h j ob2 h2; exact q.inn _ (hm.scp j ob h1)
  disj j j' ob ob' b o h1 h2 hne hf hf' := by
    obtain ⟨x, e1, q1⟩ := h j ob h1
    obtain ⟨y, e2, q2⟩ := h j' ob' h2
    exact hm.disj j j' x y b o e1 e2 hne (q1.foot _ _ _ hf) (q2.foot _ _ _ hf')
  fin := hm.fin
  fown b o v j ob hF h1 hf := by obtain ⟨x, e1, q1⟩ := h j ob h1; exact hm.fown b o v j x hF e1 (q1.foot _ _ _ hf)
  frame := hm.frame
  fresh j ob b o h1 hf := by obtain ⟨x, e1, q1⟩ := h j ob h1; exact hm.fresh j x b o e1 (q1.foot _ _ _ hf)
  base := hm.base
  prov := hm.prov
inductive RLs : List Ob → List Ob → Prop
  | nil : RLs [] []
  | cons {a b : Ob} {l m : List Ob} (h : RL a b) (t : RLs l m) : RLs (a :: l) (b :: m)
theorem RLs.len {l m : List Ob} (h : RLs l m) : m.length = l.length := by
  induction h with
  | nil => rfl
  | cons _ _ ih => simp [ih]
theorem RLs.nth {l m : List Ob} (h : RLs l m) : ∀ (j : Nat) (ob2 : Ob), nthH m j = some ob2 → ∃ ob, nthH l j = some ob ∧ RL ob ob2 := by
  induction h with
  | nil => intro j ob2 h2; cases h2
  | cons h _ ih =>
    intro j ob2 h2
    cases j with
    | zero => injection h2 with h2; subst h2; exact ⟨_, rfl, h⟩
    | succ j => exact ih j ob2 h2
theorem Post.relab {F : Frag} {r : Sz.Loc} {H : List Ob} {w : World} {v v2 : AV} {H' H2 : List Ob} {e : Ending} {w' : World} (hp : Post F r H w v H' e w') (hpan : isPan v = none) (hpan2 : isPan v2 = none)
    (hv : ∀ (F : Frag) (r : Sz.Loc) (u : Value), v.rep F r u → v2.rep F r u) (hi : ∀ D : Nat → Prop, v.inn D → v2.inn D) (hr : RLs H' H2) : Post F r H w v2 H2 e w' := by
  obtain ⟨u, F', r', h1, h2, h3, h4, h5, h6⟩ := hp
  refine ⟨u, F', r', ?_, by rw [hr.len]; exact Mem.relabel h2 hr.nth, hv _ _ _ h3, by rw [hr.len]; exact hi _ h4, h5, by rw [hr.len]; exact h6⟩
  rcases h1 with ⟨_, he⟩ | ⟨x, p, hx, _⟩
  · exact .inl ⟨hpan2, he⟩
  · rw [hpan] at hx; cases hx
theorem Post.relabel {F : Frag} {r : Sz.Loc} {H : List Ob} {w : World} {v v2 : AV} {H' H2 : List Ob} {e : Ending} {w' : World} (hp : Post F r H w v H' e w') (hpan : isPan v = none) (hpan2 : isPan v2 = none) (hv : plA v2 = v) (hr : RLs H' H2) : Post F r H w v2 H2 e w' :=
  Post.relab hp hpan hpan2 (fun F r u h => unplA (by rw [hv]; exact h)) (fun D h => uninA (by rw [hv]; exact h)) hr
structure RowG (s : Summ) (r : Row) : Prop where
  hp : r.hp = []
  run : ∃ v H', (s.g (r.as.map plA) []).run = some (v, H') ∧ s.ck (r.as.map plA) [] = true ∧ isPan v = none ∧ isPan r.v = none ∧ plA r.v = v ∧ RLs H' r.hp'
def rowsG (g : List AV → List Ob → Tree (AV × List Ob)) : List Row → List AV → List Ob → Tree (AV × List Ob)
  | [], as, H => g as H
  | r :: l, as, H => match matchR r as H with
    | some acc => askT acc (.ret (r.v, r.hp'))
    | none => rowsG g l as H
def rowsS (s : Summ) (rows : List Row) : Summ := ⟨s.modes, s.esc, rowsG s.g rows, s.ck⟩
theorem rowsG_run {s : Summ} {g : List AV → List Ob → Tree (AV × List Ob)} : ∀ {l : List Row} (hl : ∀ r ∈ l, RowG s r) {as : List AV} {H : List Ob} {x : AV × List Ob}, (rowsG g l as H).run = some x → (g as H).run = some x ∨ ∃ r, RowG s r ∧ as = r.as ∧ H = [] ∧ x = (r.v, r.hp')
  | [], _, _, _, _, h => .inl h
  | r :: l, hl, as, H, x, h => by
    simp only [rowsG] at h
    split at h
    · rename_i acc hm
      obtain ⟨he, h⟩ := askT_run h
      simp only [Tree.run, Option.some.injEq] at h
      subst h
      obtain ⟨rfl, rfl⟩ := matchR_ok hm he
      exact .inr ⟨r, hl r List.mem_cons_self, rfl, (hl r List.mem_cons_self).hp, rfl⟩
    · exact rowsG_run (fun y hy => hl y (List.mem_cons_of_mem _ hy)) h
theorem avs_pl {F : Frag} {r : Sz.Loc} : ∀ {l : List AV} {vs : List Value}, avsRep F r l vs → avsRep F r (l.map plA) vs
  | [], [], h => h
  | [], _ :: _, h => h.elim
  | _ :: _, [], h => h.elim
  | _ :: _, _ :: _, h => ⟨plA_rep h.1, avs_pl h.2⟩
theorem not_ext {P : Program} {f : FuncId} {us : Array Value} {w w' : World} {u : Value} (hfn : ∃ fn, P.funcs[f]? = some fn ∧ (fn.name == "runtime.NumGoroutine") = false ∧ fn.body.isNone = false) (h : (callFunc f us).run P w = .ok (.value u) w') : False := by
  obtain ⟨fn, h1, h2, h3⟩ := hfn
  have h4 : ¬ fn.name = "runtime.NumGoroutine" := by simpa using h2
  have h5 : fn.body ≠ none := by cases hb : fn.body <;> simp [hb] at h3 ⊢
  simp [callFunc, h1, h4, h5] at h
theorem rows_ok {K : Know} {P : Program} {f : FuncId} {s v : Summ} (h : SummOk K P f s) (hv : SummOk K P f v) {l : List Row} (hl : ∀ r ∈ l, RowG s r) : SummOk K P f (rowsS v l) := by
  have inn : ∀ {as : List AV} {D : Nat → Prop}, (∀ a ∈ as, a.inn D) → ∀ a ∈ as.map plA, a.inn D := fun h a ha => by
    obtain ⟨x, hx, rfl⟩ := List.mem_map.1 ha
    exact plA_inn (h x hx)
  rcases hv with hv | ⟨h1, hv⟩
  · rcases h with h | ⟨h1, h⟩
    · refine .inl fun args H H' v hg hck F r w us hk hp ha hi => ?_
      rcases rowsG_run hl hg with hg | ⟨row, hrow, rfl, rfl, e⟩
      · exact hv args H H' v hg hck F r w us hk hp ha hi
      injection e with e1 e2; subst e1 e2
      obtain ⟨v0, H0, g1, g2, g3, g4, g5, g6⟩ := hrow.run
      obtain ⟨u, w', k1, k2, k3⟩ := h _ [] _ _ g1 g2 F r w us hk hp (avs_pl ha) (inn hi)
      exact ⟨u, w', k1, Post.relabel k2 g3 g4 g5 g6, g4⟩
    · refine .inr ⟨h1, fun args H H' v hg hck F r w us hk hp ha hi => ?_⟩
      rcases rowsG_run hl hg with hg | ⟨row, hrow, rfl, rfl, e⟩
      · obtain ⟨u, w', k1, k2, k3⟩ := hv args H H' v hg hck F r w us hk hp ha hi
        exact (not_ext h1 k1).elim
      injection e with e1 e2; subst e1 e2
      obtain ⟨v0, H0, g1, g2, g3, g4, g5, g6⟩ := hrow.run
      exact (h _ [] _ _ g1 g2 F r w us hk hp (avs_pl ha) (inn hi)).mono fun e w' hpost => Post.relabel hpost g3 g4 g5 g6
  · refine .inr ⟨h1, fun args H H' v hg hck F r w us hk hp ha hi => ?_⟩
    rcases rowsG_run hl hg with hg | ⟨row, hrow, rfl, rfl, e⟩
    · exact hv args H H' v hg hck F r w us hk hp ha hi
    injection e with e1 e2; subst e1 e2
    obtain ⟨v0, H0, g1, g2, g3, g4, g5, g6⟩ := hrow.run
    rcases h with h | ⟨_, h⟩
    · obtain ⟨u, w', k1, k2, k3⟩ := h _ [] _ _ g1 g2 F r w us hk hp (avs_pl ha) (inn hi)
      exact (not_ext h1 k1).elim
    exact (h _ [] _ _ g1 g2 F r w us hk hp (avs_pl ha) (inn hi)).mono fun e w' hpost => Post.relabel hpost g3 g4 g5 g6
end Go.Vy
namespace Go.Vy
open Go Go.RowKit Go.Sy Go.Sz
/-! ### What must hold of numbers that are not known -/
theorem pw {k : IntKind} {x y : BitVec k.bits} (h : x = y) : eqPV (.w k x) (.w k y) = true := by rw [h]; exact eqPV_w k y
theorem pbt {b : Bool} (h : b = true) : eqPV (.v (.bool b)) (.v (.bool true)) = true := by rw [h]; rfl
theorem pin {k : IntKind} {m n : Int} (h : m = n) : eqPV (.v (.int k m)) (.v (.int k n)) = true := by rw [h]; exact eqPV_int k n
theorem at0 : allTrue [] = true := rfl
theorem at1 {b : Bool} {l : List Bool} (h : b = true) (hl : allTrue l = true) : allTrue (b :: l) = true := by rw [h]; exact hl
end Go.Vy
namespace Go.Vy
open Go Go.RowKit Go.Sy Go.Sz
end Go.Vy
namespace Go.Vy
open Go Go.RowKit Go.Sy Go.Sz
def consS (r : Row) (t : Summ) : Summ := ⟨t.modes, t.esc, fun as H => match matchR r as H with
  | some acc => askT acc (.ret (r.v, r.hp'))
  | none => t.g as H, t.ck⟩
theorem cons_ok {K : Know} {P : Program} {f : FuncId} {s t : Summ} (hs : SummOk K P f s) {r : Row} (hr : r.ok s) (hc : s.ck r.as r.hp = true) (ht : SummOk K P f t) : SummOk K P f (consS r t) := by
  have key : ∀ {as : List AV} {H : List Ob} {x : AV × List Ob}, ((consS r t).g as H).run = some x → (as = r.as ∧ H = r.hp ∧ x = (r.v, r.hp')) ∨ (t.g as H).run = some x := fun {as H x} h => by
    have h : (match matchR r as H with
      | some acc => askT acc (.ret (r.v, r.hp'))
      | none => t.g as H).run = some x := h
    split at h
    · rename_i acc hm
      obtain ⟨he, h⟩ := askT_run h
      simp only [Tree.run, Option.some.injEq] at h
      obtain ⟨e1, e2⟩ := matchR_ok hm he
      exact .inl ⟨e1, e2, h.symm⟩
    · exact .inr h
  rcases ht with ht | ⟨h1, ht⟩
  · rcases hs with hs | ⟨h1, hs⟩
    · refine .inl fun args H H' v hg hck F r' w us hk hp ha hi => ?_
      rcases key hg with ⟨rfl, rfl, e⟩ | hg
      · injection e with e1 e2; subst e1 e2
        exact hs _ _ _ _ hr hc F r' w us hk hp ha hi
      · exact ht args H H' v hg hck F r' w us hk hp ha hi
    · refine .inr ⟨h1, fun args H H' v hg hck F r' w us hk hp ha hi => ?_⟩
      rcases key hg with ⟨rfl, rfl, e⟩ | hg
      · injection e with e1 e2; subst e1 e2
        exact hs _ _ _ _ hr hc F r' w us hk hp ha hi
      · obtain ⟨u, w', k1, _, _⟩ := ht args H H' v hg hck F r' w us hk hp ha hi
        exact (not_ext h1 k1).elim
  · refine .inr ⟨h1, fun args H H' v hg hck F r' w us hk hp ha hi => ?_⟩
    rcases key hg with ⟨rfl, rfl, e⟩ | hg
    · injection e with e1 e2; subst e1 e2
      rcases hs with hs | ⟨_, hs⟩
      · obtain ⟨u, w', k1, _, _⟩ := hs _ _ _ _ hr hc F r' w us hk hp ha hi
        exact (not_ext h1 k1).elim
      · exact hs _ _ _ _ hr hc F r' w us hk hp ha hi
    · exact ht args H H' v hg hck F r' w us hk hp ha hi
end Go.Vy
