/-
  A symbolic machine for one call, with rows of any length: regions that draw their order.
  The operations are looked at once, in the order in which they are listed; each sees only the temporaries and the objects that it looks at.
  Any two that touch the same thing must be ordered by the region's edges. Then every order that the edges allow ends alike.
  A symbolic machine for one call, with rows of any length: regions that draw their order, evaluated.
-/
import Derived.Test.YtfbldjaepenfpaaGreatDoorSzX
noncomputable section
namespace Go.Sz
open Go Go.RowKit Go.Sy
set_option linter.unusedVariables false
set_option linter.unusedSimpArgs false
set_option linter.constructorNameAsVariable false
structure Ev where
  i : Nat
  ks : List Nat
  js : List Nat
  an : List Nat
  nx : Nat
  dst : Option Tmp
  eff : Eff
def hasK : Hp → Nat → Bool
  | [], _ => false
  | (k, _) :: l, j => bif Nat.beq k j then true else hasK l j
def val {α : Type} (wr : Ev → Nat → Bool) (out : Ev → Nat → α) (b0 : Nat → α) (L : Nat → Bool) : List Ev → Nat → α
  | [], k => b0 k
  | ev :: l, k => bif L ev.i && wr ev k then out ev k else val wr out b0 L l k
def wrE (ev : Ev) (k : Nat) : Bool := isD ev.dst k
def outE (ev : Ev) (_ : Nat) : Option AV := ev.eff.res
def wrH (ev : Ev) (j : Nat) : Bool := hasK ev.eff.ups j
def outH (ev : Ev) (j : Nat) : Option Ob := getH ev.eff.ups j
theorem updH_has : ∀ (ups : Hp) (H : Hf) (j : Nat), updH ups H j = bif hasK ups j then getH ups j else H j
  | [], _, _ => rfl
  | (k, ob) :: l, H, j => by
    simp only [updH, hasK, getH_cons]
    cases Nat.beq k j with
    | true => rfl
    | false => exact updH_has l H j
section
variable {α : Type} {wr : Ev → Nat → Bool} {out : Ev → Nat → α} {b0 : Nat → α}
theorem val_all {L L' : Nat → Bool} : ∀ {evs : List Ev} {k : Nat}, (∀ q ∈ evs, wr q k = true → L q.i = L' q.i) → val wr out b0 L evs k = val wr out b0 L' evs k
  | [], _, _ => rfl
  | ev :: l, k, h => by
    simp only [val]
    rw [val_all (evs := l) fun q hq => h q (List.mem_cons_of_mem _ hq)]
    cases hw : wr ev k with
    | false => simp
    | true => rw [h ev List.mem_cons_self hw]
theorem val_skip {L : Nat → Bool} : ∀ {post rest : List Ev} {k : Nat}, (∀ q ∈ post, L q.i = true → wr q k = false) → val wr out b0 L (post ++ rest) k = val wr out b0 L rest k
  | [], _, _, _ => rfl
  | ev :: l, rest, k, h => by
    simp only [List.cons_append, val]
    rw [val_skip (post := l) fun q hq => h q (List.mem_cons_of_mem _ hq)]
    cases hl : L ev.i with
    | false => simp
    | true => rw [h ev List.mem_cons_self hl]; rfl
theorem val_local {L : Nat → Bool} {post pre : List Ev} {p : Ev} {k : Nat} (h1 : ∀ q ∈ post, L q.i = true → wr q k = false) (hp : L p.i = false) (h2 : ∀ q ∈ pre, wr q k = true → L q.i = true) :
    val wr out b0 L (post ++ p :: pre) k = val wr out b0 (fun _ => true) pre k := by
  rw [val_skip h1]
  simp only [val, hp, Bool.false_and, cond_false]
  exact val_all fun q hq hw => h2 q hq hw
theorem val_put {L L' : Nat → Bool} {p : Ev} (hL : ∀ j, j ≠ p.i → L' j = L j) (hp' : L' p.i = true) (hp : L p.i = false) {k : Nat} : ∀ {post pre : List Ev}, (∀ q ∈ post, q.i ≠ p.i) → (∀ q ∈ pre, q.i ≠ p.i) →
    (∀ q ∈ post, L q.i = true → wr p k = true → wr q k = false) → val wr out b0 L' (post ++ p :: pre) k = bif wr p k then out p k else val wr out b0 L (post ++ p :: pre) k
  | [], pre, _, h, _ => by
    simp only [List.nil_append, val, hp', hp, Bool.true_and, Bool.false_and, cond_false]
    congr 1
    exact val_all fun q hq _ => hL _ (h q hq)
  | ev :: l, pre, h0, h, h1 => by
    simp only [List.cons_append, val]
    rw [val_put hL hp' hp (fun q hq => h0 q (List.mem_cons_of_mem _ hq)) h (fun q hq => h1 q (List.mem_cons_of_mem _ hq)), hL _ (h0 ev List.mem_cons_self)]
    cases hl : L ev.i with
    | false => simp
    | true =>
      cases hw : wr p k with
      | false => simp
      | true => rw [h1 ev List.mem_cons_self hl hw]; simp
end
/-! ### Who touches what -/
def anyN (f : Nat → Bool) (l : List Nat) : Bool :=
  List.rec (motive := fun _ => Bool) false (fun x _ ih => Bool.rec (motive := fun _ => Bool) ih true (f x)) l
theorem anyN_cons {f : Nat → Bool} {x : Nat} {l : List Nat} : anyN f (x :: l) = (f x || anyN f l) := by
  show Bool.rec (motive := fun _ => Bool) (anyN f l) true (f x) = _
  cases f x <;> rfl
theorem anyN_false {f : Nat → Bool} : ∀ {l : List Nat}, anyN f l = false → ∀ x ∈ l, f x = false
  | [], _, x, hx => by cases hx
  | y :: l, h, x, hx => by
    simp only [anyN_cons, Bool.or_eq_false_iff] at h
    rcases List.mem_cons.1 hx with rfl | hx
    · exact h.1
    · exact anyN_false h.2 x hx
def anyK (f : Nat → Bool) : Hp → Bool
  | [] => false
  | (k, _) :: l => f k || anyK f l
theorem anyK_false {f : Nat → Bool} : ∀ {l : Hp}, anyK f l = false → ∀ j, hasK l j = true → f j = false
  | [], _, j, h => by cases h
  | (k, ob) :: l, hf, j, h => by
    simp only [anyK, Bool.or_eq_false_iff] at hf
    simp only [hasK, bif_beq] at h
    split at h
    · rename_i e; subst e; exact hf.1
    · exact anyK_false hf.2 j h
def sameD (p q : Option Tmp) : Bool := match p with
  | some d => isD q d
  | none => false
def clash (q p : Ev) : Bool :=
  sameD q.dst p.dst || (anyN (isD q.dst) p.ks || (anyN (isD p.dst) q.ks || (anyK (hasK p.eff.ups) q.eff.ups || (anyN (hasK q.eff.ups) p.js || anyN (hasK p.eff.ups) q.js))))
structure Apart (q p : Ev) : Prop where
  dst : ∀ k, wrE q k = true → wrE p k = false
  ks : ∀ k ∈ p.ks, wrE q k = false
  ks' : ∀ k ∈ q.ks, wrE p k = false
  ups : ∀ j, wrH q j = true → wrH p j = false
  js : ∀ j ∈ p.js, wrH q j = false
  js' : ∀ j ∈ q.js, wrH p j = false
theorem isD_iff {dst : Option Tmp} {k : Nat} : isD dst k = true ↔ dst = some k := by
  cases dst with
  | none => simp [isD]
  | some d =>
    simp only [isD, Option.some.injEq]
    constructor
    · exact Nat.eq_of_beq_eq_true
    · intro h; subst h; simp
theorem clash_spec {q p : Ev} (h : clash q p = false) : Apart q p := by
  simp only [clash, Bool.or_eq_false_iff] at h
  obtain ⟨h1, h2, h3, h4, h5, h6⟩ := h
  refine ⟨fun k hk => ?_, anyN_false h2, anyN_false h3, anyK_false h4, anyN_false h5, anyN_false h6⟩
  have := isD_iff.1 hk
  rw [this] at h1
  exact h1
def direct (o : Oper) : List Nat := (o.after.toList.filter fun e => Region.binds .any e).map (·.on)
def DL (nx0 : Nat) (L : Nat → Bool) (evs : List Ev) (j : Nat) : Prop := j < nx0 ∨ ∃ ev ∈ evs, L ev.i = true ∧ ev.nx ≤ j ∧ j < ev.nx + ev.eff.nn
def restr {α : Type} (ks : List Nat) (f : Nat → Option α) : Nat → Option α := fun k => bif memN k ks then f k else none
theorem restr_spec {α : Type} {ks : List Nat} {f : Nat → Option α} {k : Nat} {x : α} (h : restr ks f k = some x) : k ∈ ks ∧ f k = some x := by
  unfold restr at h
  cases hb : memN k ks with
  | false => rw [hb] at h; cases h
  | true => rw [hb] at h; exact ⟨memN_iff.1 hb, h⟩
section
variable (P : Program) (T : Tab) (N : Nat) (ops : Array Oper) (E0 : Ef) (H0 : Hf) (nx0 : Nat) (X : Nat → Bool)
def seenE (ks : List Nat) (pre : List Ev) : Ef := restr ks (val wrE outE E0 (fun _ => true) pre)
def seenH (js : List Nat) (pre : List Ev) : Hf := restr js (val wrH outH H0 (fun _ => true) pre)
structure EvOk (ev : Ev) (pre : List Ev) (o : Oper) : Prop where
  op : ops[ev.i]? = some o
  dst : X ev.i = false → ev.dst = o.dst
  dOk : dstOk N ev.dst = true
  eOk : effOk ev.dst ev.eff = true
  edge : ∀ e ∈ direct o, e < ev.i
  an : ∀ a ∈ ev.an, a ∈ direct o ∨ ∃ q ∈ pre, q.i ∈ direct o ∧ a ∈ q.an
  apart : ∀ q ∈ pre, q.i ∈ ev.an ∨ Apart q ev
  nx : ∀ q ∈ pre, q.nx + q.eff.nn ≤ ev.nx
  nx0 : nx0 ≤ ev.nx
  run : X ev.i = false → ∃ b, GuardIs ops o (seenE E0 ev.ks pre) b ∧ ((b = true ∧ (opT P T (seenH H0 ev.js pre) (seenE E0 ev.ks pre) ev.nx o).run = some ev.eff) ∨ (b = false ∧ ev.eff = skipEff))
def Good : List Ev → Prop
  | [] => True
  | ev :: pre => ev.i = pre.length ∧ (∃ o, EvOk P T N ops E0 H0 nx0 X ev pre o) ∧ Good pre
end
section
variable {P : Program} {T : Tab} {ds : List Deferred} {N : Nat} {ops : Array Oper} {E0 : Ef} {H0 : Hf} {nx0 : Nat} {X : Nat → Bool}
theorem Good.lt : ∀ {evs : List Ev}, Good P T N ops E0 H0 nx0 X evs → ∀ q ∈ evs, q.i < evs.length
  | [], _, q, hq => by cases hq
  | ev :: pre, h, q, hq => by
    rcases List.mem_cons.1 hq with rfl | hq
    · rw [h.1]; simp
    · have := Good.lt h.2.2 q hq; simp; omega
theorem Good.cut : ∀ {evs : List Ev}, Good P T N ops E0 H0 nx0 X evs → ∀ i, i < evs.length → ∃ post p pre, evs = post ++ p :: pre ∧ p.i = i ∧ (∃ o, EvOk P T N ops E0 H0 nx0 X p pre o) ∧ Good P T N ops E0 H0 nx0 X pre ∧ (∀ q ∈ post, p.i < q.i ∧ ∃ pre' o, p ∈ pre' ∧ EvOk P T N ops E0 H0 nx0 X q pre' o) ∧ (∀ q ∈ pre, q.i < p.i)
  | [], _, i, h => by simp at h
  | ev :: pre, h, i, hi => by
    by_cases he : i = pre.length
    · refine ⟨[], ev, pre, rfl, by rw [h.1, he], h.2.1, h.2.2, (fun q hq => by cases hq), fun q hq => ?_⟩
      rw [h.1]; exact Good.lt h.2.2 q hq
    · obtain ⟨post, p, pre', e1, e2, e3, e4, e5, e6⟩ := Good.cut h.2.2 i (by simp at hi; omega)
      refine ⟨ev :: post, p, pre', by rw [e1]; rfl, e2, e3, e4, fun q hq => ?_, e6⟩
      rcases List.mem_cons.1 hq with rfl | hq
      · have hp : p ∈ pre := by rw [e1]; simp
        refine ⟨?_, pre, ?_⟩
        · rw [h.1]; exact Good.lt h.2.2 p hp
        · obtain ⟨o, ho⟩ := h.2.1
          exact ⟨o, hp, ho⟩
      · exact e5 q hq
def Closed (ops : Array Oper) (L : Nat → Bool) : Prop := ∀ i o, ops[i]? = some o → L i = true → ∀ e ∈ direct o, L e = true
theorem Good.anc {L : Nat → Bool} (hL : Closed ops L) : ∀ {evs : List Ev}, Good P T N ops E0 H0 nx0 X evs → ∀ ev ∈ evs, L ev.i = true → ∀ a ∈ ev.an, L a = true
  | [], _, ev, hev, _, _, _ => by cases hev
  | e :: pre, h, ev, hev, hl, a, ha => by
    rcases List.mem_cons.1 hev with rfl | hev
    · obtain ⟨o, ho⟩ := h.2.1
      rcases ho.an a ha with hd | ⟨q, hq, hqd, haq⟩
      · exact hL _ _ ho.op hl a hd
      · exact Good.anc hL h.2.2 q hq (hL _ _ ho.op hl q.i hqd) a haq
    · exact Good.anc hL h.2.2 ev hev hl a ha
theorem Good.nxs : ∀ {evs : List Ev}, Good P T N ops E0 H0 nx0 X evs → ∀ p ∈ evs, ∀ q ∈ evs, p.i < q.i → p.nx + p.eff.nn ≤ q.nx
  | [], _, p, hp, _, _, _ => by cases hp
  | e :: pre, h, p, hp, q, hq, hlt => by
    rcases List.mem_cons.1 hp with hp' | hp'
    · rcases List.mem_cons.1 hq with hq' | hq'
      · rw [hp', hq'] at hlt; omega
      · have := Good.lt h.2.2 q hq'; rw [hp', h.1] at hlt; omega
    · rcases List.mem_cons.1 hq with hq' | hq'
      · obtain ⟨o, ho⟩ := h.2.1; rw [hq']; exact ho.nx p hp'
      · exact Good.nxs h.2.2 p hp' q hq' hlt
structure ConcL (ds : List Deferred) (N : Nat) (w0 : World) (S : Nat → Nat → Prop) (R0 : Frag) (m : Nat) (r0 : Loc) (E0 : Ef) (H0 : Hf) (nx0 : Nat) (evs : List Ev) (L : Nat → Bool) (F : Frag) (r : Loc) (a : Act) (w : World) : Prop where
  defers : a.defers = ds
  size : a.tmps.size = N
  env : EnvR F r (val wrE outE E0 L evs) a
  inn : EnvIn (DL nx0 L evs) (val wrE outE E0 L evs)
  mem : Mem w0 S R0 (DL nx0 L evs) (val wrH outH H0 L evs) F r w
  par : ∀ j, j < m → r j = r0 j
  mle : m ≤ nx0
variable {w0 : World} {S : Nat → Nat → Prop} {R0 : Frag} {m : Nat} {r0 : Loc}
theorem ConcL.take {K : Know} (hT : TOk K P T) (hk : K.ok R0) {evs : List Ev} (hg : Good P T N ops E0 H0 nx0 X evs) (hlen : evs.length = ops.size) {L L' : Nat → Bool} {i : Nat} (hi : i < ops.size) (hXi : X i = false) (hLi : L i = false) (hL : Closed ops L)
    (hready : ∀ o, ops[i]? = some o → ∀ e ∈ direct o, L e = true) (hL' : ∀ j, j ≠ i → L' j = L j) (hLi' : L' i = true) {F : Frag} {r : Loc} {a : Act} {w : World} (hc : ConcL ds N w0 S R0 m r0 E0 H0 nx0 evs L F r a w)
    {Q : Exit → Act → World → Prop} {KK : Act → World → Prop} (hK : ∀ F' r' a' w', ConcL ds N w0 S R0 m r0 E0 H0 nx0 evs L' F' r' a' w' → KK a' w') : wpOp P ops Q i KK a w := by
  obtain ⟨post, p, pre, rfl, rfl, ⟨o, ho⟩, hgp, hpost, hpre⟩ := hg.cut i (by omega)
  have hanp : ∀ x ∈ p.an, L x = true := fun x hx => by
    rcases ho.an x hx with hd | ⟨q, hq, hqd, hxq⟩
    · exact hready o ho.op x hd
    · exact hgp.anc hL q hq (hready o ho.op _ hqd) x hxq
  -- those behind it that went already are apart from it
  have hpo : ∀ q ∈ post, L q.i = true → Apart p q := fun q hq hlq => by
    obtain ⟨hlt, pre', oq, hpm, hoq⟩ := hpost q hq
    rcases hoq.apart p hpm with h | h
    · exfalso
      have := hg.anc hL q (by simp [hq]) hlq p.i h
      rw [hLi] at this; cases this
    · exact h
  have hpr : ∀ q ∈ pre, L q.i = true ∨ Apart q p := fun q hq => by
    rcases ho.apart q hq with h | h
    · exact .inl (hanp _ h)
    · exact .inr h
  have seeE : ∀ k av, seenE E0 p.ks pre k = some av → val wrE outE E0 L (post ++ p :: pre) k = some av := fun k av h => by
    obtain ⟨hk, h⟩ := restr_spec h
    rw [val_local (fun q hq hlq => (hpo q hq hlq).ks' k hk) hLi (fun q hq hw => ?_)]
    · exact h
    · rcases hpr q hq with h | h
      · exact h
      · rw [h.ks k hk] at hw; cases hw
  have seeH : ∀ j ob, seenH H0 p.js pre j = some ob → val wrH outH H0 L (post ++ p :: pre) j = some ob := fun j ob h => by
    obtain ⟨hk, h⟩ := restr_spec h
    rw [val_local (fun q hq hlq => (hpo q hq hlq).js' j hk) hLi (fun q hq hw => ?_)]
    · exact h
    · rcases hpr q hq with h | h
      · exact h
      · rw [h.js j hk] at hw; cases hw
  have hne1 : ∀ q ∈ post, q.i ≠ p.i := fun q hq => by have := (hpost q hq).1; omega
  have hne2 : ∀ q ∈ pre, q.i ≠ p.i := fun q hq => by have := hpre q hq; omega
  have putEq : ∀ k, val wrE outE E0 L' (post ++ p :: pre) k = bif isD o.dst k then p.eff.res else val wrE outE E0 L (post ++ p :: pre) k := fun k => by
    rw [val_put hL' hLi' hLi hne1 hne2 (fun q hq hlq hw => (hpo q hq hlq).dst k hw)]
    simp only [wrE, outE, ho.dst hXi]
  have putHq : val wrH outH H0 L' (post ++ p :: pre) = updH p.eff.ups (val wrH outH H0 L (post ++ p :: pre)) := by
    funext j
    rw [val_put hL' hLi' hLi hne1 hne2 (fun q hq hlq hw => (hpo q hq hlq).ups j hw), updH_has]
    rfl
  have hDD : ∀ j, DL nx0 L (post ++ p :: pre) j → DL nx0 L' (post ++ p :: pre) j := fun j hj => by
    rcases hj with hj | ⟨ev, h1, h2, h3⟩
    · exact .inl hj
    · refine .inr ⟨ev, h1, ?_, h3⟩
      by_cases e : ev.i = p.i
      · rw [e]; exact hLi'
      · rw [hL' _ e]; exact h2
  have hDM : ∀ j, More (DL nx0 L (post ++ p :: pre)) p.nx p.eff.nn j → DL nx0 L' (post ++ p :: pre) j := fun j hj => by
    rcases hj with hj | hj
    · exact hDD j hj
    · exact .inr ⟨p, by simp, hLi', hj⟩
  have next : ∀ v F' r' w', After w0 S R0 (DL nx0 L (post ++ p :: pre)) (val wrH outH H0 L (post ++ p :: pre)) F r p.nx p.eff F' r' w' v → KK (a.put o.dst v) w' := fun v F' r' w' ha => by
    refine hK F' r' _ w' ⟨by rw [put_defers]; exact hc.defers, by rw [put_size]; exact hc.size, ?_, ?_, ?_, fun j hj => by rw [ha.agree j (.inl (Nat.lt_of_lt_of_le hj hc.mle))]; exact hc.par j hj, hc.mle⟩
    · exact (hc.env.to hc.inn ha.le ha.agree).put hc.size (by rw [← ho.dst hXi]; exact ho.dOk) (by rw [← ho.dst hXi]; exact ho.eOk) (fun av hav => (ha.res av hav).1) putEq
    · intro k av hk
      rw [putEq] at hk
      cases hi : isD o.dst k with
      | true => rw [hi] at hk; exact AV.inn_mono hDM (ha.res av hk).2
      | false => rw [hi] at hk; exact AV.inn_mono hDD (hc.inn k av hk)
    · rw [putHq]; exact ha.mem.monoD hDM
  have hE : EnvR F r (seenE E0 p.ks pre) a := fun k av h => hc.env k av (seeE k av h)
  have hI : EnvIn (DL nx0 L (post ++ p :: pre)) (seenE E0 p.ks pre) := fun k av h => hc.inn k av (seeE k av h)
  have hnx : ∀ j, p.nx ≤ j → j < p.nx + p.eff.nn → ¬ DL nx0 L (post ++ p :: pre) j := fun j h1 h2 h3 => by
    rcases h3 with h3 | ⟨ev, g1, g2, g3, g4⟩
    · have := ho.nx0; omega
    · have hp : p ∈ post ++ p :: pre := by simp
      rcases Nat.lt_trichotomy ev.i p.i with h | h | h
      · have := hg.nxs ev g1 p hp h; omega
      · rw [h, hLi] at g2; cases g2
      · have := hg.nxs p hp ev g1 h; omega
  obtain ⟨b, hgd, hrun⟩ := ho.run hXi
  unfold wpOp
  rw [ho.op]
  simp only []
  rw [hgd.wanted hE]
  rcases hrun with ⟨rfl, hrun⟩ | ⟨rfl, hrun⟩
  · rw [if_pos rfl]
    exact .inl (op_wp hT hk seeH hc.mem hnx hrun hE hI (effOk_pan ho.eOk) fun v w' F' r' ha => next v F' r' w' ha)
  · rw [if_neg (by simp)]
    refine next undef F r w ⟨fun _ _ => rfl, Frag.le_refl F, ?_, fun av hav => ?_⟩
    · rw [hrun]; exact hc.mem.monoD (fun j hj => .inl hj)
    · rw [hrun] at hav
      injection hav with hav; subst hav
      exact ⟨undef_rep F r, fun x hx => by cases hx⟩
theorem edge_direct {o : Oper} {e : Edge} (h : e ∈ o.after) (hb : Region.binds .any e = true) : e.on ∈ direct o := by
  unfold direct
  exact List.mem_map.2 ⟨e, List.mem_filter.2 ⟨by simpa using h, hb⟩, rfl⟩
theorem direct_edge {o : Oper} {x : Nat} (h : x ∈ direct o) : ∃ e ∈ o.after, Region.binds .any e = true ∧ e.on = x := by
  unfold direct at h
  obtain ⟨e, he, rfl⟩ := List.mem_map.1 h
  obtain ⟨h1, h2⟩ := List.mem_filter.1 he
  exact ⟨e, by simpa using h1, h2, rfl⟩
theorem getD_set (l : Array Bool) (i j : Nat) (d : Bool) (hi : i < l.size) : (l.setIfInBounds i true).getD j d = if i = j then true else l.getD j d := by
  simp only [Array.getD_eq_getD_getElem?, Array.getElem?_setIfInBounds]
  by_cases h : i = j
  · subst h; simp [hi]
  · simp [h]
theorem drawn_wp {K : Know} (hT : TOk K P T) (hk : K.ok R0) {evs : List Ev} {kp : Nat} (hXs : ∀ i, X i = true → i < ops.size) (hX : ∀ i o, ops[i]? = some o → X i = true → i ≠ kp → ∃ e ∈ direct o, X e = true) (hg : Good P T N ops E0 H0 nx0 X evs) (hlen : evs.length = ops.size) {Q : Exit → Act → World → Prop}
    (hP : ∀ L : Nat → Bool, X kp = true → Closed ops L → (∀ j, X j = true → L j = false) → (∀ o, ops[kp]? = some o → ∀ e ∈ direct o, L e = true) → ∀ F r a w KK, ConcL ds N w0 S R0 m r0 E0 H0 nx0 evs L F r a w → wpOp P ops Q kp KK a w)
    (hQ : (∀ i, X i = false) → ∀ F r a w, ConcL ds N w0 S R0 m r0 E0 H0 nx0 evs (fun _ => true) F r a w → Q .normal a w) :
    ∀ (fuel : Nat) (listed : Array Bool) (U : List Nat) (F : Frag) (r : Loc) (a : Act) (w : World), listed.size = ops.size → (∀ i, i < ops.size → listed.getD i true = false → i ∈ U) → U.length ≤ fuel → Closed ops (fun i => listed.getD i false) → (∀ j, X j = true → listed.getD j false = false) →
      ConcL ds N w0 S R0 m r0 E0 H0 nx0 evs (fun i => listed.getD i false) F r a w → wpAny P .any ops Q fuel listed a w := by
  have done : ∀ (listed : Array Bool) (F : Frag) (r : Loc) (a : Act) (w : World), listed.size = ops.size → (∀ i, i < ops.size → listed.getD i true = true) → (∀ j, X j = true → listed.getD j false = false) → ConcL ds N w0 S R0 m r0 E0 H0 nx0 evs (fun i => listed.getD i false) F r a w → Q .normal a w := by
    intro listed F r a w hsz hall hXl hc
    have hL : ∀ q ∈ evs, listed.getD q.i false = true := fun q hq => by
      have h1 := hg.lt q hq
      have h2 := hall q.i (by omega)
      rw [Array.getD_eq_getD_getElem?] at h2 ⊢
      rw [Array.getElem?_eq_getElem (by omega)] at h2 ⊢
      exact h2
    have e1 : val wrE outE E0 (fun i => listed.getD i false) evs = val wrE outE E0 (fun _ => true) evs := by funext k; exact val_all fun q hq _ => hL q hq
    have e2 : val wrH outH H0 (fun i => listed.getD i false) evs = val wrH outH H0 (fun _ => true) evs := by funext k; exact val_all fun q hq _ => hL q hq
    have hD : ∀ j, DL nx0 (fun i => listed.getD i false) evs j → DL nx0 (fun _ => true) evs j := fun j hj => by
      rcases hj with hj | ⟨ev, h1, h2, h3⟩
      · exact .inl hj
      · exact .inr ⟨ev, h1, rfl, h3⟩
    have hX0 : ∀ i, X i = false := fun i => by
      cases hx : X i with
      | false => rfl
      | true =>
        have h1 := hXs i hx
        have h2 := hall i h1
        have h3 := hXl i hx
        rw [Array.getD_eq_getD_getElem?] at h2 h3
        rw [Array.getElem?_eq_getElem (by omega)] at h2 h3
        have h2 : listed[i] = true := h2
        have h3 : listed[i] = false := h3
        rw [h2] at h3; cases h3
    refine hQ hX0 F r a w ⟨hc.defers, hc.size, by rw [← e1]; exact hc.env, ?_, by rw [← e2]; exact hc.mem.monoD hD, hc.par, hc.mle⟩
    rw [← e1]
    exact fun k av h => AV.inn_mono hD (hc.inn k av h)
  intro fuel
  induction fuel with
  | zero =>
    intro listed U F r a w hsz hU hl hcl hXl hc
    have hU0 : U = [] := List.length_eq_zero_iff.1 (by omega)
    have hall : ∀ i, i < ops.size → listed.getD i true = true := fun i hi => by
      cases hb : listed.getD i true with
      | true => rfl
      | false => have := hU i hi hb; rw [hU0] at this; cases this
    refine ⟨List.eq_nil_iff_forall_not_mem.2 fun j hj => ?_, done listed F r a w hsz hall hXl hc⟩
    obtain ⟨h1, o, h2, _⟩ := mem_ready.1 hj
    have hj' : j < ops.size := by
      rcases Nat.lt_or_ge j ops.size with h | h
      · exact h
      · rw [Array.getElem?_eq_none h] at h2; cases h2
    rw [hall j hj'] at h1; cases h1
  | succ fuel ih =>
    intro listed U F r a w hsz hU hl hcl hXl hc
    constructor
    · intro hr
      refine done listed F r a w hsz (fun i hi => ?_) hXl hc
      have key : ∀ n i, i < n → i < ops.size → listed.getD i true = true := by
        intro n
        induction n with
        | zero => intro i h; omega
        | succ n ihn =>
          intro i hin hi
          cases hb : listed.getD i true with
          | true => rfl
          | false =>
            exfalso
            obtain ⟨post, p, pre, e1, e2, ⟨o, ho⟩, _, _, _⟩ := hg.cut i (by omega)
            subst e2
            have : p.i ∈ Region.ready .any ops listed := mem_ready.2 ⟨hb, o, ho.op, fun e he hbind => by
              have h1 := ho.edge _ (edge_direct he hbind)
              have h2 := ihn e.on (by omega) (by omega)
              rw [Array.getD_eq_getD_getElem?] at h2 ⊢
              rw [Array.getElem?_eq_getElem (by omega)] at h2 ⊢
              exact h2⟩
            rw [hr] at this; cases this
      exact key (i + 1) i (by omega) hi
    · intro i hi
      obtain ⟨h1, o, h2, h3⟩ := mem_ready.1 hi
      have hi' : i < ops.size := by
        rcases Nat.lt_or_ge i ops.size with h | h
        · exact h
        · rw [Array.getElem?_eq_none h] at h2; cases h2
      have hLi : listed.getD i false = false := by
        rw [Array.getD_eq_getD_getElem?] at h1 ⊢
        rw [Array.getElem?_eq_getElem (by omega)] at h1 ⊢
        exact h1
      cases hXi : X i with
      | true =>
        by_cases hik : i = kp
        · subst hik
          exact hP _ hXi hcl hXl (fun o' ho' e he => by
            rw [h2] at ho'; injection ho' with ho'; subst ho'
            obtain ⟨ed, g1, g2, rfl⟩ := direct_edge he
            exact h3 ed g1 g2) F r a w _ hc
        · obtain ⟨e, he, hxe⟩ := hX i o h2 hXi hik
          obtain ⟨ed, g1, g2, rfl⟩ := direct_edge he
          have := h3 ed g1 g2
          rw [hXl _ hxe] at this; cases this
      | false =>
      refine hc.take hT hk hg hlen (L' := fun j => (listed.setIfInBounds i true).getD j false) hi' hXi hLi hcl (fun o' ho' e he => ?_) (fun j hj => ?_) ?_ (fun F' r' a' w' hc' => ?_)
      · rw [h2] at ho'; injection ho' with ho'; subst ho'
        obtain ⟨ed, g1, g2, rfl⟩ := direct_edge he
        exact h3 ed g1 g2
      · show (listed.setIfInBounds i true).getD j false = _
        rw [getD_set _ _ _ _ (by omega), if_neg (Ne.symm hj)]
      · show (listed.setIfInBounds i true).getD i false = _
        rw [getD_set _ _ _ _ (by omega), if_pos rfl]
      · have hmem : i ∈ U := hU i hi' h1
        refine ih (listed.setIfInBounds i true) (U.erase i) F' r' a' w' (by simpa using hsz) (fun j hj hlj => ?_) (by rw [List.length_erase_of_mem hmem]; omega) (fun j o' ho' hlj e he => ?_) (fun j hj => by
          rw [getD_set _ _ _ _ (by omega), if_neg (fun e => by subst e; rw [hXi] at hj; cases hj)]
          exact hXl j hj) hc'
        · rw [getD_set _ _ _ _ (by omega)] at hlj
          split at hlj
          · cases hlj
          · rename_i hne
            exact (List.mem_erase_of_ne (Ne.symm hne)).2 (hU j hj hlj)
        · show (listed.setIfInBounds i true).getD e false = true
          rw [getD_set _ _ _ _ (by omega)]
          split
          · rfl
          · have hlj' : (listed.setIfInBounds i true).getD j false = true := hlj
            rw [getD_set _ _ _ _ (by omega)] at hlj'
            split at hlj'
            · rename_i e1; subst e1
              rw [h2] at ho'; injection ho' with ho'; subst ho'
              obtain ⟨ed, g1, g2, rfl⟩ := direct_edge he
              exact h3 ed g1 g2
            · exact hcl j o' ho' hlj' e he
end
end Go.Sz
namespace Go.Sz
open Go Go.RowKit Go.Sy
set_option linter.unusedVariables false
set_option linter.unusedSimpArgs false
set_option linter.constructorNameAsVariable false
/-! ### What an operation looks at -/
def fstL : List (Nat × Bool) → List Nat → List Nat
  | [], acc => acc
  | (j, _) :: l, acc => bif memN j acc then fstL l acc else fstL l (j :: acc)
def refsOs (E : Ef) : List Operand → List Nat → List Nat
  | [], acc => acc
  | x :: l, acc => match evalO E x with
    | some av => refsOs E l (fstL (refsA av) acc)
    | none => refsOs E l acc
def refsM : List (Value × Part) → List Nat → List Nat
  | [], acc => acc
  | (_, x) :: l, acc => refsM l (fstL (refsA (.p x)) acc)
def reach (H : Hf) : Nat → List Nat → List Nat → List Nat
  | 0, _, s => s
  | _ + 1, [], s => s
  | n + 1, j :: l, s => bif memN j s then reach H n l s else match H j with
    | some (.lit cs) => reach H n (fstL (refsL cs) l) (j :: s)
    | some (.lr _ _ cs) => reach H n (fstL (refsL cs) l) (j :: s)
    | some (.cm es) => reach H n (refsM es l) (j :: s)
    | _ => reach H n l (j :: s)
def isPlainPtr (E : Ef) (x : Operand) : Bool := match evalO E x with
  | some (.p (.one (.p _ _))) => true
  | some (.p (.one (.e _ _ _ _ _ _))) => true
  | _ => false
def jsOf (H : Hf) (E : Ef) (o : Oper) : List Nat := match o.op with
  | .alloc _ => []
  | .box _ _ => []
  | .move _ => []
  | .assign _ => []
  | .pick .. => []
  | .nilCheck _ => []
  | .fieldAddr .. => []
  | .field .. => []
  | .binOp .. => []
  | .unOp .. => []
  | .extract .. => []
  | .build .. => []
  | .index .. => []
  | .makeFunc .. => []
  | .load _ x => refsOs E [x] []
  | .store _ x y => bif isPlainPtr E x then refsOs E [x] [] else reach H 200 (refsOs E [x, y] []) []
  | .call c => reach H 200 (refsOs E o.op.operands.toList []) []
  | .makeMap .. => []
  | .mapUpdate .. => reach H 200 (refsOs E o.op.operands.toList []) []
  | .insert .. => reach H 200 (refsOs E o.op.operands.toList []) []
  | .buildSlice .. => reach H 200 (refsOs E o.op.operands.toList []) []
  | .convert .. => reach H 200 (refsOs E o.op.operands.toList []) []
  | _ => refsOs E o.op.operands.toList []
def nxt (nx0 : Nat) : List Ev → Nat
  | [] => nx0
  | ev :: _ => ev.nx + ev.eff.nn
def addN (x : Nat) (l : List Nat) : List Nat := bif memN x l then l else x :: l
def addAll : List Nat → List Nat → List Nat
  | [], l => l
  | x :: a, l => addN x (addAll a l)
def anOf (d : List Nat) : List Ev → List Nat → List Nat
  | [], acc => addAll d acc
  | q :: l, acc => bif memN q.i d then anOf d l (addAll q.an acc) else anOf d l acc
def apartAll (an : List Nat) (p : Ev) : List Ev → Bool
  | [] => true
  | q :: l => (memN q.i an || !clash q p) && apartAll an p l
def apartD (dr an : List Nat) (p : Ev) : List Ev → Bool
  | [] => true
  | q :: l => (memN q.i dr || (!clash q p || memN q.i an)) && apartD dr an p l
def allLt (n : Nat) : List Nat → Bool
  | [] => true
  | x :: l => Nat.blt x n && allLt n l
def setB (t : Nat) (b : Bool) : List Ev → List Ev
  | [] => []
  | ev :: l => bif isD ev.dst t then { ev with eff := { ev.eff with res := some (AV.b b) } } :: l else ev :: setB t b l
def noteV (m : Option (Nat × Bool)) (acc : List Ev) : List Ev := match m with
  | some (t, b) => setB t b acc
  | none => acc
section
variable (P : Program) (T : Tab) (N : Nat) (ops : Array Oper) (E0 : Ef) (H0 : Hf) (nx0 : Nat)
def addEv (o : Oper) (acc : List Ev) (eff : Eff) : Ev :=
  ⟨acc.length, o.looksAt ops, jsOf (val wrH outH H0 (fun _ => true) acc) (val wrE outE E0 (fun _ => true) acc) o, anOf (direct o) acc [], nxt nx0 acc, o.dst, eff⟩
def deadEv (acc : List Ev) : Ev := ⟨acc.length, [], [], [], nxt nx0 acc, none, ⟨none, [], 0⟩⟩
def panEv (o : Oper) (acc : List Ev) (eff : Eff) : Ev :=
  ⟨acc.length, o.looksAt ops, jsOf (val wrH outH H0 (fun _ => true) acc) (val wrE outE E0 (fun _ => true) acc) o, anOf (direct o) acc [], nxt nx0 acc, none, ⟨none, [], eff.nn⟩⟩
def evsQ : List Nat → List Oper → List Ev → Tree (List Ev × List Nat)
  | xs, [], acc => .ret (acc, xs)
  | xs, o :: l, acc => bif allLt acc.length (direct o) && dstOk N o.dst then
      bif anyN (fun x => memN x xs) (direct o) then evsQ (acc.length :: xs) l (deadEv nx0 acc :: acc) else
      guardT ops o (seenE E0 (o.looksAt ops) acc)
        (fun m => (opT P T (seenH H0 (addEv ops E0 H0 nx0 o (noteV m acc) skipEff).js (noteV m acc)) (seenE E0 (o.looksAt ops) (noteV m acc)) (nxt nx0 (noteV m acc)) o).bind fun eff =>
          bif effOk o.dst eff && apartD (direct o) (anOf (direct o) (noteV m acc) []) (addEv ops E0 H0 nx0 o (noteV m acc) eff) (noteV m acc) then evsQ xs l (addEv ops E0 H0 nx0 o (noteV m acc) eff :: noteV m acc) else .fail)
        (fun m => bif apartD (direct o) (anOf (direct o) (noteV m acc) []) (addEv ops E0 H0 nx0 o (noteV m acc) skipEff) (noteV m acc) then evsQ xs l (addEv ops E0 H0 nx0 o (noteV m acc) skipEff :: noteV m acc) else .fail)
    else .fail
structure PanR where
  ev : Ev
  eff : Eff
  q : Part
  xs : List Nat
def evsT : List Oper → List Ev → Tree (List Ev × Option PanR)
  | [], acc => .ret (acc, none)
  | o :: l, acc => bif allLt acc.length (direct o) && dstOk N o.dst then
      guardT ops o (seenE E0 (o.looksAt ops) acc)
        (fun m => (opT P T (seenH H0 (addEv ops E0 H0 nx0 o (noteV m acc) skipEff).js (noteV m acc)) (seenE E0 (o.looksAt ops) (noteV m acc)) (nxt nx0 (noteV m acc)) o).bind fun eff =>
          match panE eff with
          | none => bif effOk o.dst eff && apartD (direct o) (anOf (direct o) (noteV m acc) []) (addEv ops E0 H0 nx0 o (noteV m acc) eff) (noteV m acc) then evsT l (addEv ops E0 H0 nx0 o (noteV m acc) eff :: noteV m acc) else .fail
          | some q => bif mayPan o.op && apartD (direct o) (anOf (direct o) (noteV m acc) []) (panEv ops E0 H0 nx0 o (noteV m acc) eff) (noteV m acc) then
              (evsQ P T N ops E0 H0 nx0 [(noteV m acc).length] l (panEv ops E0 H0 nx0 o (noteV m acc) eff :: noteV m acc)).bind fun r => .ret (r.1, some ⟨panEv ops E0 H0 nx0 o (noteV m acc) eff, eff, q, r.2⟩) else .fail)
        (fun m => bif apartD (direct o) (anOf (direct o) (noteV m acc) []) (addEv ops E0 H0 nx0 o (noteV m acc) skipEff) (noteV m acc) then evsT l (addEv ops E0 H0 nx0 o (noteV m acc) skipEff :: noteV m acc) else .fail)
    else .fail
def calm (an : List Nat) : List Ev → Bool
  | [] => true
  | ev :: l => (memN ev.i an || (match ev.eff.ups with | [] => true | _ => false)) && calm an l
def envOf (env : Env) : List Ev → Env
  | [] => env
  | ev :: l => putE ev.dst ev.eff.res (envOf env l)
def hpOf (hp : Hp) : List Ev → Hp
  | [] => hp
  | ev :: l => ev.eff.ups ++ hpOf hp l
end
def drawT (P : Program) (T : Tab) (N : Nat) (ops : Array Oper) (st : St) : Tree (Option Part × St) :=
  (evsT P T N ops (look st.env) (getH st.hp) st.nx ops.toList []).bind fun r => match r.2 with
    | none => .ret (none, ⟨envOf st.env r.1, hpOf st.hp r.1, nxt st.nx r.1⟩)
    | some p => bif calm p.ev.an r.1 then .ret (some p.q, ⟨[], p.eff.ups ++ hpOf st.hp r.1, nxt st.nx r.1⟩) else .fail
section
variable {P : Program} {T : Tab} {ds : List Deferred} {N : Nat} {ops : Array Oper} {E0 : Ef} {H0 : Hf} {nx0 : Nat} {X : Nat → Bool}
theorem addN_mem {x y : Nat} {l : List Nat} (h : y ∈ addN x l) : y = x ∨ y ∈ l := by
  unfold addN at h
  cases hb : memN x l with
  | true => rw [hb] at h; exact .inr h
  | false => rw [hb] at h; exact List.mem_cons.1 h
theorem addAll_mem {y : Nat} : ∀ {a l : List Nat}, y ∈ addAll a l → y ∈ a ∨ y ∈ l
  | [], _, h => .inr h
  | x :: a, l, h => by
    rcases addN_mem h with rfl | h
    · exact .inl List.mem_cons_self
    · rcases addAll_mem h with h | h
      · exact .inl (List.mem_cons_of_mem _ h)
      · exact .inr h
theorem anOf_mem {d : List Nat} {a : Nat} : ∀ {pre : List Ev} {acc : List Nat}, a ∈ anOf d pre acc → a ∈ d ∨ (∃ q ∈ pre, q.i ∈ d ∧ a ∈ q.an) ∨ a ∈ acc
  | [], acc, h => by
    rcases addAll_mem h with h | h
    · exact .inl h
    · exact .inr (.inr h)
  | q :: l, acc, h => by
    simp only [anOf] at h
    cases hb : memN q.i d with
    | true =>
      rw [hb] at h
      rcases anOf_mem h with h | ⟨x, h1, h2⟩ | h
      · exact .inl h
      · exact .inr (.inl ⟨x, List.mem_cons_of_mem _ h1, h2⟩)
      · rcases addAll_mem h with h | h
        · exact .inr (.inl ⟨q, List.mem_cons_self, memN_iff.1 hb, h⟩)
        · exact .inr (.inr h)
    | false =>
      rw [hb] at h
      rcases anOf_mem h with h | ⟨x, h1, h2⟩ | h
      · exact .inl h
      · exact .inr (.inl ⟨x, List.mem_cons_of_mem _ h1, h2⟩)
      · exact .inr (.inr h)
theorem addN_self {x : Nat} {l : List Nat} : x ∈ addN x l := by
  unfold addN
  cases hb : memN x l with
  | true => exact memN_iff.1 hb
  | false => exact List.mem_cons_self
theorem addN_old {x y : Nat} {l : List Nat} (h : y ∈ l) : y ∈ addN x l := by
  unfold addN
  cases hb : memN x l with
  | true => exact h
  | false => exact List.mem_cons_of_mem _ h
theorem addAll_in {y : Nat} : ∀ {a l : List Nat}, y ∈ a → y ∈ addAll a l
  | [], _, h => by cases h
  | x :: a, l, h => by
    rcases List.mem_cons.1 h with rfl | h
    · exact addN_self
    · exact addN_old (addAll_in h)
theorem anOf_in {d : List Nat} {a : Nat} (h : a ∈ d) : ∀ {pre : List Ev} {acc : List Nat}, a ∈ anOf d pre acc
  | [], acc => addAll_in h
  | q :: l, acc => by
    simp only [anOf]
    cases hb : memN q.i d with
    | true => exact anOf_in h
    | false => exact anOf_in h
theorem apartD_all {dr an : List Nat} {p : Ev} (hs : ∀ x ∈ dr, x ∈ an) : ∀ {pre : List Ev}, apartD dr an p pre = true → apartAll an p pre = true
  | [], _ => rfl
  | q :: l, h => by
    simp only [apartD, Bool.and_eq_true, Bool.or_eq_true] at h
    simp only [apartAll, Bool.and_eq_true, Bool.or_eq_true]
    refine ⟨?_, apartD_all hs h.2⟩
    rcases h.1 with h | h | h
    · exact .inl (memN_iff.2 (hs _ (memN_iff.1 h)))
    · exact .inr h
    · exact .inl h
theorem apartAll_spec {an : List Nat} {p : Ev} : ∀ {pre : List Ev}, apartAll an p pre = true → ∀ q ∈ pre, q.i ∈ an ∨ Apart q p
  | [], _, q, hq => by cases hq
  | x :: l, h, q, hq => by
    simp only [apartAll, Bool.and_eq_true, Bool.or_eq_true, Bool.not_eq_true'] at h
    rcases List.mem_cons.1 hq with rfl | hq
    · rcases h.1 with h | h
      · exact .inl (memN_iff.1 h)
      · exact .inr (clash_spec h)
    · exact apartAll_spec h.2 q hq
theorem allLt_spec {n : Nat} : ∀ {l : List Nat}, allLt n l = true → ∀ x ∈ l, x < n
  | [], _, x, hx => by cases hx
  | y :: l, h, x, hx => by
    simp only [allLt, Bool.and_eq_true] at h
    rcases List.mem_cons.1 hx with rfl | hx
    · exact Nat.le_of_ble_eq_true h.1
    · exact allLt_spec h.2 x hx
theorem setB_eq {t : Nat} {b : Bool} : ∀ {acc : List Ev}, (∀ av, val wrE outE E0 (fun _ => true) acc t = some av → av = AV.b b) → (val wrE outE E0 (fun _ => true) acc t).isSome → setB t b acc = acc
  | [], _, _ => rfl
  | ev :: l, h, hs => by
    simp only [setB]
    simp only [val, Bool.true_and, wrE, outE] at h hs
    cases hb : isD ev.dst t with
    | true =>
      rw [hb] at h hs
      simp only [cond_true] at h hs
      obtain ⟨av, hav⟩ := Option.isSome_iff_exists.1 hs
      have := h av hav
      subst this
      obtain ⟨i, ks, js, an, nx, dst, res, ups, nn⟩ := ev
      simp only at hav
      simp only [cond_true, hav]
    | false =>
      rw [hb] at h hs
      simp only [cond_false] at h hs
      simp only [cond_false]
      rw [setB_eq (acc := l) h hs]
theorem noteV_eq {m : Option (Nat × Bool)} {acc : List Ev} (h : ∀ t c, m = some (t, c) → val wrE outE E0 (fun _ => true) acc t = some (AV.b c)) : noteV m acc = acc := by
  cases m with
  | none => rfl
  | some x =>
    obtain ⟨t, c⟩ := x
    have := h t c rfl
    exact setB_eq (E0 := E0) (fun av hav => by rw [this] at hav; injection hav with hav; exact hav.symm) (by rw [this]; rfl)
theorem nxt_le : ∀ {evs : List Ev}, Good P T N ops E0 H0 nx0 X evs → nx0 ≤ nxt nx0 evs ∧ ∀ q ∈ evs, q.nx + q.eff.nn ≤ nxt nx0 evs
  | [], _ => ⟨Nat.le_refl _, fun q hq => by cases hq⟩
  | ev :: pre, h => by
    obtain ⟨o, ho⟩ := h.2.1
    refine ⟨Nat.le_trans ho.nx0 (Nat.le_add_right _ _), fun q hq => ?_⟩
    rcases List.mem_cons.1 hq with rfl | hq
    · exact Nat.le_refl _
    · exact Nat.le_trans (ho.nx q hq) (Nat.le_add_right _ _)
theorem good_add {acc : List Ev} (hg : Good P T N ops E0 H0 nx0 X acc) {o : Oper} (hop : ops[acc.length]? = some o) (hd : dstOk N o.dst = true) (hlt : allLt acc.length (direct o) = true) {eff : Eff} (he : effOk o.dst eff = true)
    (hap : apartAll (anOf (direct o) acc []) (addEv ops E0 H0 nx0 o acc eff) acc = true) {b : Bool} (hgd : GuardIs ops o (seenE E0 (o.looksAt ops) acc) b)
    (hrun : (b = true ∧ (opT P T (seenH H0 (addEv ops E0 H0 nx0 o acc eff).js acc) (seenE E0 (o.looksAt ops) acc) (nxt nx0 acc) o).run = some eff) ∨ (b = false ∧ eff = skipEff)) :
    Good P T N ops E0 H0 nx0 X (addEv ops E0 H0 nx0 o acc eff :: acc) := by
  refine ⟨rfl, ⟨o, hop, fun _ => rfl, hd, he, allLt_spec hlt, fun a ha => ?_, apartAll_spec hap, (nxt_le hg).2, (nxt_le hg).1, fun _ => ⟨b, hgd, hrun⟩⟩, hg⟩
  rcases anOf_mem ha with h | h | h
  · exact .inl h
  · exact .inr h
  · cases h
theorem step_case {o : Oper} {acc : List Ev} {β : Type} {y : β} {yes : Eff → List Ev → Tree β} {no : List Ev → Tree β}
    (h : (guardT ops o (seenE E0 (o.looksAt ops) acc)
        (fun m => (opT P T (seenH H0 (addEv ops E0 H0 nx0 o (noteV m acc) skipEff).js (noteV m acc)) (seenE E0 (o.looksAt ops) (noteV m acc)) (nxt nx0 (noteV m acc)) o).bind fun eff => yes eff (noteV m acc))
        (fun m => no (noteV m acc))).run = some y) :
    ∃ b, GuardIs ops o (seenE E0 (o.looksAt ops) acc) b ∧
      ((b = true ∧ ∃ eff, (opT P T (seenH H0 (addEv ops E0 H0 nx0 o acc skipEff).js acc) (seenE E0 (o.looksAt ops) acc) (nxt nx0 acc) o).run = some eff ∧ (yes eff acc).run = some y) ∨ (b = false ∧ (no acc).run = some y)) := by
  obtain ⟨b, m, hgd, hm, hcase⟩ := guardT_spec h
  have hn : noteV m acc = acc := noteV_eq (E0 := E0) fun t c e => (restr_spec (hm t c e)).2
  rw [hn] at hcase
  refine ⟨b, hgd, ?_⟩
  rcases hcase with ⟨rfl, hy⟩ | ⟨rfl, hy⟩
  · obtain ⟨eff, he, h2⟩ := Tree.run_bind_some hy
    exact .inl ⟨rfl, eff, he, h2⟩
  · exact .inr ⟨rfl, hy⟩
theorem opsDrop {o : Oper} {l : List Oper} {n : Nat} (hl : ops.toList.drop n = o :: l) : ops[n]? = some o ∧ n < ops.size ∧ ops.toList.drop (n + 1) = l := by
  have hop : ops[n]? = some o := by
    have := congrArg (fun (x : List Oper) => x[0]?) hl
    simpa [List.getElem?_drop] using this
  refine ⟨hop, ?_, by rw [← List.drop_drop, hl]; rfl⟩
  rcases Nat.lt_or_ge n ops.size with h | h
  · exact h
  · rw [Array.getElem?_eq_none h] at hop; cases hop
theorem evsQ_xs : ∀ (l : List Oper) (xs xs' : List Nat) (acc evs : List Ev), (evsQ P T N ops E0 H0 nx0 xs l acc).run = some (evs, xs') → ops.toList.drop acc.length = l →
    (∀ x ∈ xs, x ∈ xs') ∧ (∀ x ∈ xs', x ∈ xs ∨ (acc.length ≤ x ∧ x < ops.size ∧ ∀ o, ops[x]? = some o → ∃ e ∈ direct o, e ∈ xs')) ∧ ∃ post, evs = post ++ acc
  | [], xs, xs', acc, evs, h, _ => by
    simp only [evsQ, Tree.run, Option.some.injEq, Prod.mk.injEq] at h
    obtain ⟨rfl, rfl⟩ := h
    exact ⟨fun _ h => h, fun _ h => .inl h, [], rfl⟩
  | o :: l, xs, xs', acc, evs, h, hl => by
    obtain ⟨hop, hlt', hl'⟩ := opsDrop hl
    simp only [evsQ] at h
    cases hb : (allLt acc.length (direct o) && dstOk N o.dst) with
    | false => rw [hb] at h; cases h
    | true =>
    rw [hb] at h
    simp only [cond_true] at h
    have later : ∀ (ev : Ev), (evsQ P T N ops E0 H0 nx0 xs l (ev :: acc)).run = some (evs, xs') → (∀ x ∈ xs, x ∈ xs') ∧ (∀ x ∈ xs', x ∈ xs ∨ (acc.length ≤ x ∧ x < ops.size ∧ ∀ o, ops[x]? = some o → ∃ e ∈ direct o, e ∈ xs')) ∧ ∃ post, evs = post ++ acc := fun ev h => by
      obtain ⟨h1, h2, post, h3⟩ := evsQ_xs l xs xs' _ evs h (by simpa using hl')
      refine ⟨h1, fun x hx => ?_, post ++ [ev], by rw [h3]; simp⟩
      rcases h2 x hx with h | ⟨h, h'⟩
      · exact .inl h
      · exact .inr ⟨by rw [List.length_cons] at h; omega, h'⟩
    cases hd : anyN (fun x => memN x xs) (direct o) with
    | true =>
      rw [hd] at h
      simp only [cond_true] at h
      obtain ⟨h1, h2, post, h3⟩ := evsQ_xs l _ xs' _ evs h (by simpa using hl')
      refine ⟨fun x hx => h1 x (List.mem_cons_of_mem _ hx), fun x hx => ?_, post ++ [deadEv nx0 acc], by rw [h3]; simp⟩
      rcases h2 x hx with h | ⟨h, h'⟩
      · rcases List.mem_cons.1 h with rfl | h
        · refine .inr ⟨Nat.le_refl _, hlt', fun o' ho' => ?_⟩
          rw [hop] at ho'; injection ho' with ho'; subst ho'
          have : ∃ e ∈ direct o, memN e xs = true := by
            generalize direct o = dl at hd
            induction dl with
            | nil => cases hd
            | cons y dl ih =>
              rw [anyN_cons, Bool.or_eq_true] at hd
              rcases hd with hd | hd
              · exact ⟨y, List.mem_cons_self, hd⟩
              · obtain ⟨e, g1, g2⟩ := ih hd; exact ⟨e, List.mem_cons_of_mem _ g1, g2⟩
          obtain ⟨e, g1, g2⟩ := this
          exact ⟨e, g1, h1 e (List.mem_cons_of_mem _ (memN_iff.1 g2))⟩
        · exact .inl h
      · exact .inr ⟨by rw [List.length_cons] at h; omega, h'⟩
    | false =>
      rw [hd] at h
      simp only [cond_false] at h
      obtain ⟨b, hgd, hcase⟩ := step_case (yes := fun eff acc => bif effOk o.dst eff && apartD (direct o) (anOf (direct o) acc []) (addEv ops E0 H0 nx0 o acc eff) acc then evsQ P T N ops E0 H0 nx0 xs l (addEv ops E0 H0 nx0 o acc eff :: acc) else .fail)
        (no := fun acc => bif apartD (direct o) (anOf (direct o) acc []) (addEv ops E0 H0 nx0 o acc skipEff) acc then evsQ P T N ops E0 H0 nx0 xs l (addEv ops E0 H0 nx0 o acc skipEff :: acc) else .fail) h
      rcases hcase with ⟨_, eff, he, h2⟩ | ⟨_, hy⟩
      · cases hb2 : (effOk o.dst eff && apartD (direct o) (anOf (direct o) acc []) (addEv ops E0 H0 nx0 o acc eff) acc) with
        | false => rw [hb2] at h2; cases h2
        | true => rw [hb2] at h2; exact later _ h2
      · cases hb2 : apartD (direct o) (anOf (direct o) acc []) (addEv ops E0 H0 nx0 o acc skipEff) acc with
        | false => rw [hb2] at hy; cases hy
        | true => rw [hb2] at hy; exact later _ hy
theorem evsQ_good : ∀ (l : List Oper) (xs xs' : List Nat) (acc evs : List Ev), (evsQ P T N ops E0 H0 nx0 xs l acc).run = some (evs, xs') → Good P T N ops E0 H0 nx0 (fun i => memN i xs') acc → ops.toList.drop acc.length = l → acc.length ≤ ops.size →
    Good P T N ops E0 H0 nx0 (fun i => memN i xs') evs ∧ evs.length = ops.size
  | [], xs, xs', acc, evs, h, hg, hl, hle => by
    simp only [evsQ, Tree.run, Option.some.injEq, Prod.mk.injEq] at h
    obtain ⟨rfl, rfl⟩ := h
    refine ⟨hg, ?_⟩
    have := congrArg List.length hl
    simp at this; omega
  | o :: l, xs, xs', acc, evs, h, hg, hl, hle => by
    obtain ⟨hop, hlt', hl'⟩ := opsDrop hl
    simp only [evsQ] at h
    cases hb : (allLt acc.length (direct o) && dstOk N o.dst) with
    | false => rw [hb] at h; cases h
    | true =>
    rw [hb] at h
    simp only [cond_true] at h
    simp only [Bool.and_eq_true] at hb
    cases hd : anyN (fun x => memN x xs) (direct o) with
    | true =>
      rw [hd] at h
      simp only [cond_true] at h
      have hin := (evsQ_xs l _ xs' _ evs h (by simpa using hl')).1 acc.length List.mem_cons_self
      have hX : (fun i => memN i xs') acc.length = true := memN_iff.2 hin
      refine evsQ_good l _ xs' _ evs h ⟨rfl, ⟨o, hop, fun hx => ?_, rfl, rfl, allLt_spec hb.1, fun a ha => (by cases ha), fun q hq => .inr ⟨fun _ _ => rfl, fun _ h => (by cases h), fun _ _ => rfl, fun _ _ => rfl, fun _ h => (by cases h), fun _ _ => rfl⟩, (nxt_le hg).2, (nxt_le hg).1, fun hx => ?_⟩, hg⟩ (by simpa using hl') (by rw [List.length_cons]; omega)
      · have hx : (fun i => memN i xs') acc.length = false := hx
        rw [hX] at hx; cases hx
      · have hx : (fun i => memN i xs') acc.length = false := hx
        rw [hX] at hx; cases hx
    | false =>
      rw [hd] at h
      simp only [cond_false] at h
      obtain ⟨b, hgd, hcase⟩ := step_case (yes := fun eff acc => bif effOk o.dst eff && apartD (direct o) (anOf (direct o) acc []) (addEv ops E0 H0 nx0 o acc eff) acc then evsQ P T N ops E0 H0 nx0 xs l (addEv ops E0 H0 nx0 o acc eff :: acc) else .fail)
        (no := fun acc => bif apartD (direct o) (anOf (direct o) acc []) (addEv ops E0 H0 nx0 o acc skipEff) acc then evsQ P T N ops E0 H0 nx0 xs l (addEv ops E0 H0 nx0 o acc skipEff :: acc) else .fail) h
      rcases hcase with ⟨rfl, eff, he, h2⟩ | ⟨rfl, hy⟩
      · cases hb2 : (effOk o.dst eff && apartD (direct o) (anOf (direct o) acc []) (addEv ops E0 H0 nx0 o acc eff) acc) with
        | false => rw [hb2] at h2; cases h2
        | true =>
          rw [hb2] at h2
          simp only [Bool.and_eq_true] at hb2
          exact evsQ_good l xs xs' _ evs h2 (good_add hg hop hb.2 hb.1 hb2.1 (apartD_all (fun _ h => anOf_in h) hb2.2) hgd (.inl ⟨rfl, he⟩)) (by simpa using hl') (by rw [List.length_cons]; omega)
      · cases hb2 : apartD (direct o) (anOf (direct o) acc []) (addEv ops E0 H0 nx0 o acc skipEff) acc with
        | false => rw [hb2] at hy; cases hy
        | true =>
          rw [hb2] at hy
          exact evsQ_good l xs xs' _ evs hy (good_add hg hop hb.2 hb.1 (by cases o.dst <;> rfl) (apartD_all (fun _ h => anOf_in h) hb2) hgd (.inr ⟨rfl, rfl⟩)) (by simpa using hl') (by rw [List.length_cons]; omega)
structure PanOk (P : Program) (T : Tab) (ops : Array Oper) (E0 : Ef) (H0 : Hf) (p : PanR) (pre : List Ev) (o : Oper) : Prop where
  op : ops[p.ev.i]? = some o
  guard : GuardIs ops o (seenE E0 p.ev.ks pre) true
  run : (opT P T (seenH H0 p.ev.js pre) (seenE E0 p.ev.ks pre) p.ev.nx o).run = some p.eff
  pan : panE p.eff = some p.q
  may : mayPan o.op = true
  nn : p.ev.eff = ⟨none, [], p.eff.nn⟩
theorem evsT_good : ∀ (l : List Oper) (acc evs : List Ev) (x : Option PanR), (evsT P T N ops E0 H0 nx0 l acc).run = some (evs, x) → (∀ X, Good P T N ops E0 H0 nx0 X acc) → ops.toList.drop acc.length = l → acc.length ≤ ops.size →
    match x with
    | none => (∀ X, Good P T N ops E0 H0 nx0 X evs) ∧ evs.length = ops.size
    | some p => Good P T N ops E0 H0 nx0 (fun i => memN i p.xs) evs ∧ evs.length = ops.size ∧ (∃ pre post o, evs = post ++ p.ev :: pre ∧ PanOk P T ops E0 H0 p pre o) ∧ p.ev.i ∈ p.xs ∧ (∀ x ∈ p.xs, x < ops.size) ∧ ∀ i o, ops[i]? = some o → i ∈ p.xs → i ≠ p.ev.i → ∃ e ∈ direct o, e ∈ p.xs
  | [], acc, evs, x, h, hg, hl, hle => by
    simp only [evsT, Tree.run, Option.some.injEq, Prod.mk.injEq] at h
    obtain ⟨rfl, rfl⟩ := h
    refine ⟨hg, ?_⟩
    have := congrArg List.length hl
    simp at this; omega
  | o :: l, acc, evs, x, h, hg, hl, hle => by
    obtain ⟨hop, hlt', hl'⟩ := opsDrop hl
    simp only [evsT] at h
    cases hb : (allLt acc.length (direct o) && dstOk N o.dst) with
    | false => rw [hb] at h; cases h
    | true =>
      rw [hb] at h
      simp only [cond_true] at h
      simp only [Bool.and_eq_true] at hb
      obtain ⟨b, hgd, hcase⟩ := step_case (yes := fun eff acc => match panE eff with
          | none => bif effOk o.dst eff && apartD (direct o) (anOf (direct o) acc []) (addEv ops E0 H0 nx0 o acc eff) acc then evsT P T N ops E0 H0 nx0 l (addEv ops E0 H0 nx0 o acc eff :: acc) else .fail
          | some q => bif mayPan o.op && apartD (direct o) (anOf (direct o) acc []) (panEv ops E0 H0 nx0 o acc eff) acc then
              (evsQ P T N ops E0 H0 nx0 [acc.length] l (panEv ops E0 H0 nx0 o acc eff :: acc)).bind fun r => .ret (r.1, some ⟨panEv ops E0 H0 nx0 o acc eff, eff, q, r.2⟩) else .fail)
        (no := fun acc => bif apartD (direct o) (anOf (direct o) acc []) (addEv ops E0 H0 nx0 o acc skipEff) acc then evsT P T N ops E0 H0 nx0 l (addEv ops E0 H0 nx0 o acc skipEff :: acc) else .fail) h
      rcases hcase with ⟨rfl, eff, he, h2⟩ | ⟨rfl, hy⟩
      · cases hp : panE eff with
        | none =>
          rw [hp] at h2
          simp only at h2
          cases hb2 : (effOk o.dst eff && apartD (direct o) (anOf (direct o) acc []) (addEv ops E0 H0 nx0 o acc eff) acc) with
          | false => rw [hb2] at h2; cases h2
          | true =>
            rw [hb2] at h2
            simp only [cond_true] at h2
            simp only [Bool.and_eq_true] at hb2
            exact evsT_good l _ evs x h2 (fun X => good_add (hg X) hop hb.2 hb.1 hb2.1 (apartD_all (fun _ h => anOf_in h) hb2.2) hgd (.inl ⟨rfl, he⟩)) (by simpa using hl') (by rw [List.length_cons]; omega)
        | some q =>
          rw [hp] at h2
          simp only at h2
          cases hb2 : (mayPan o.op && apartD (direct o) (anOf (direct o) acc []) (panEv ops E0 H0 nx0 o acc eff) acc) with
          | false => rw [hb2] at h2; cases h2
          | true =>
            rw [hb2] at h2
            simp only [cond_true] at h2
            simp only [Bool.and_eq_true] at hb2
            obtain ⟨⟨evs', xs⟩, h3, h4⟩ := Tree.run_bind_some h2
            simp only [Tree.run, Option.some.injEq, Prod.mk.injEq] at h4
            obtain ⟨rfl, rfl⟩ := h4
            obtain ⟨g1, g2, post, g3⟩ := evsQ_xs l _ xs _ evs' h3 (by simpa using hl')
            have hin : acc.length ∈ xs := g1 _ List.mem_cons_self
            have hX : (fun i => memN i xs) acc.length = true := memN_iff.2 hin
            have hev : ∃ o', EvOk P T N ops E0 H0 nx0 (fun i => memN i xs) (panEv ops E0 H0 nx0 o acc eff) acc o' := by
              refine ⟨o, hop, fun hx => ?_, rfl, rfl, allLt_spec hb.1, fun a ha => ?_, apartAll_spec (apartD_all (fun _ h => anOf_in h) hb2.2), (nxt_le (hg (fun _ => false))).2, (nxt_le (hg (fun _ => false))).1, fun hx => ?_⟩
              · have hx : (fun i => memN i xs) acc.length = false := hx
                rw [hX] at hx; cases hx
              · rcases anOf_mem ha with h | h | h
                · exact .inl h
                · exact .inr h
                · cases h
              · have hx : (fun i => memN i xs) acc.length = false := hx
                rw [hX] at hx; cases hx
            obtain ⟨k1, k2⟩ := evsQ_good l _ xs _ evs' h3 ⟨rfl, hev, hg _⟩ (by simpa using hl') (by rw [List.length_cons]; omega)
            refine ⟨k1, k2, ⟨acc, post, o, g3, hop, hgd, he, hp, hb2.1, rfl⟩, hin, fun x hx => ?_, fun i o' ho' hi hne => ?_⟩
            · rcases g2 x hx with h | ⟨_, h, _⟩
              · rcases List.mem_cons.1 h with rfl | h
                · exact hlt'
                · cases h
              · exact h
            · rcases g2 i hi with h | ⟨_, _, h⟩
              · rcases List.mem_cons.1 h with rfl | h
                · exact absurd rfl hne
                · cases h
              · exact h o' ho'
      · cases hb2 : apartD (direct o) (anOf (direct o) acc []) (addEv ops E0 H0 nx0 o acc skipEff) acc with
        | false => rw [hb2] at hy; cases hy
        | true =>
          rw [hb2] at hy
          simp only [cond_true] at hy
          exact evsT_good l _ evs x hy (fun X => good_add (hg X) hop hb.2 hb.1 (by cases o.dst <;> rfl) (apartD_all (fun _ h => anOf_in h) hb2) hgd (.inr ⟨rfl, rfl⟩)) (by simpa using hl') (by rw [List.length_cons]; omega)
theorem Good.tail : ∀ {post acc : List Ev}, Good P T N ops E0 H0 nx0 X (post ++ acc) → Good P T N ops E0 H0 nx0 X acc
  | [], _, h => h
  | _ :: post, _, h => Good.tail (post := post) h.2.2
theorem calm_spec {an : List Nat} : ∀ {evs : List Ev}, calm an evs = true → ∀ q ∈ evs, q.i ∈ an ∨ q.eff.ups = []
  | [], _, q, hq => by cases hq
  | ev :: l, h, q, hq => by
    simp only [calm, Bool.and_eq_true, Bool.or_eq_true] at h
    rcases List.mem_cons.1 hq with rfl | hq
    · rcases h.1 with h | h
      · exact .inl (memN_iff.1 h)
      · refine .inr ?_
        cases hu : q.eff.ups with
        | nil => rfl
        | cons a b => rw [hu] at h; cases h
    · exact calm_spec h.2 q hq
theorem envOf_look {env : Env} : ∀ {evs : List Ev}, Good P T N ops (look env) H0 nx0 X evs → ∀ k, look (envOf env evs) k = val wrE outE (look env) (fun _ => true) evs k
  | [], _, _ => rfl
  | ev :: pre, h, k => by
    obtain ⟨o, ho⟩ := h.2.1
    have := ho.eOk
    simp only [envOf, val, Bool.true_and, wrE, outE]
    rw [isD_look ev.dst ev.eff _ this, envOf_look h.2.2]
theorem hpOf_get {hp : Hp} : ∀ {evs : List Ev}, getH (hpOf hp evs) = val wrH outH (getH hp) (fun _ => true) evs
  | [] => rfl
  | ev :: pre => by
    funext j
    simp only [hpOf, val, Bool.true_and, wrH, outH]
    rw [← updH_getH, updH_has, hpOf_get]
variable {w0 : World} {S : Nat → Nat → Prop} {R0 : Frag} {m : Nat} {r0 : Loc}
theorem drawT_wp {K : Know} (hT : TOk K P T) (hk : K.ok R0) (hm : P.follows .mixedOrders = true) {st st' : St} {x : Option Part} (h : (drawT P T N ops st).run = some (x, st')) {F : Frag} {r : Loc} {a : Act} {w : World} (hc : Conc ds N w0 S R0 m r0 st F r a w)
    {Q : Exit → Act → World → Prop} (hQ : QP ds N w0 S R0 m r0 Q x st') {id : Nat} : (Code.region id ops true).wp P Q a w := by
  unfold drawT at h
  obtain ⟨⟨evs, y⟩, h1, h2⟩ := Tree.run_bind_some h
  have hgood := evsT_good ops.toList [] evs y h1 (fun _ => trivial) rfl (Nat.zero_le _)
  have vE : ∀ {L : Nat → Bool} (hL : ∀ i, L i = false) (evs : List Ev), val wrE outE (look st.env) L evs = look st.env := fun hL evs => by
    funext k
    induction evs with
    | nil => rfl
    | cons ev l ih => simp only [val, hL, Bool.false_and, cond_false, ih]
  have vH : ∀ {L : Nat → Bool} (hL : ∀ i, L i = false) (evs : List Ev), val wrH outH (getH st.hp) L evs = getH st.hp := fun hL evs => by
    funext k
    induction evs with
    | nil => rfl
    | cons ev l ih => simp only [val, hL, Bool.false_and, cond_false, ih]
  have hL0 : ∀ i, (Array.replicate ops.size false).getD i false = false := fun i => by
    rw [Array.getD_eq_getD_getElem?, Array.getElem?_replicate]
    split <;> rfl
  have hcl : Closed ops fun i => (Array.replicate ops.size false).getD i false := by
    intro i o _ hi
    have hi' : (Array.replicate ops.size false).getD i false = true := hi
    rw [hL0 i] at hi'; cases hi'
  have hcc : ConcL ds N w0 S R0 m r0 (look st.env) (getH st.hp) st.nx evs (fun i => (Array.replicate ops.size false).getD i false) F r a w.drew := by
    refine ⟨hc.defers, hc.size, by rw [vE hL0]; exact hc.env, ?_, ?_, hc.par, hc.mle⟩
    · rw [vE hL0]; exact fun k av hk => AV.inn_mono (fun j hj => .inl hj) (hc.inn k av hk)
    · rw [vH hL0]; exact (hc.mem.monoD (fun j hj => .inl hj)).drew
  cases y with
  | none =>
    simp only [Tree.run, Option.some.injEq, Prod.mk.injEq] at h2
    obtain ⟨rfl, rfl⟩ := h2
    obtain ⟨hg, hlen⟩ := hgood
    have hg := hg (fun _ => false)
    refine wp_region_any hm (drawn_wp (w0 := w0) (S := S) (m := m) (r0 := r0) (kp := 0) hT hk (fun _ h => by cases h) (fun _ _ _ h => by cases h) hg hlen (fun _ h => by cases h) (fun _ F' r' a' w' hl => hQ F' r' a' w' ⟨hl.defers, hl.size, ?_, ?_, ?_, hl.par, Nat.le_trans hl.mle (nxt_le hg).1⟩) ops.size (Array.replicate ops.size false) (List.range ops.size) F r a _ (by simp) (fun i hi _ => List.mem_range.2 hi) (by simp) hcl (fun _ h => by cases h) hcc)
    · have e : look (envOf st.env evs) = val wrE outE (look st.env) (fun _ => true) evs := by funext k; exact envOf_look hg k
      rw [e]; exact hl.env
    · have e : look (envOf st.env evs) = val wrE outE (look st.env) (fun _ => true) evs := by funext k; exact envOf_look hg k
      rw [e]
      refine fun k av hk => AV.inn_mono (fun j hj => ?_) (hl.inn k av hk)
      rcases hj with hj | ⟨ev, g1, _, g3, g4⟩
      · exact Nat.lt_of_lt_of_le hj (nxt_le hg).1
      · exact Nat.lt_of_lt_of_le g4 ((nxt_le hg).2 ev g1)
    · show Mem w0 S R0 _ (getH (hpOf st.hp evs)) F' r' w'
      rw [hpOf_get]
      refine hl.mem.monoD fun j hj => ?_
      rcases hj with hj | ⟨ev, g1, _, g3, g4⟩
      · exact Nat.lt_of_lt_of_le hj (nxt_le hg).1
      · exact Nat.lt_of_lt_of_le g4 ((nxt_le hg).2 ev g1)
  | some p =>
    simp only at h2
    cases hb : calm p.ev.an evs with
    | false => rw [hb] at h2; cases h2
    | true =>
    rw [hb] at h2
    simp only [cond_true, Tree.run, Option.some.injEq, Prod.mk.injEq] at h2
    obtain ⟨rfl, rfl⟩ := h2
    obtain ⟨hg, hlen, ⟨pre, post, o, hev, hpo⟩, hin, hlt, hxs⟩ := hgood
    have hXk : (fun i => memN i p.xs) p.ev.i = true := memN_iff.2 hin
    refine wp_region_any hm (drawn_wp (w0 := w0) (S := S) (m := m) (r0 := r0) (kp := p.ev.i) hT hk (fun i h => hlt i (memN_iff.1 h)) (fun i o ho hX hne => ?_) hg hlen (fun L _ hcL hXL hrd F1 r1 a1 w1 KK hc1 => ?_) (fun h0 => by have h1 : (fun i => memN i p.xs) p.ev.i = false := h0 p.ev.i; rw [hXk] at h1; cases h1) ops.size (Array.replicate ops.size false) (List.range ops.size) F r a _ (by simp) (fun i hi _ => List.mem_range.2 hi) (by simp) hcl (fun i _ => hL0 i) hcc)
    · obtain ⟨e, g1, g2⟩ := hxs i o ho (memN_iff.1 hX) hne
      exact ⟨e, g1, memN_iff.2 g2⟩
    · -- the operation's own turn
      have hLp : L p.ev.i = false := hXL _ hXk
      obtain ⟨post', p', pre', e1, e2, ⟨o', ho'⟩, hgp, hpost, hpre⟩ := hg.cut p.ev.i (by rw [hlen]; exact hlt _ hin)
      have hlen1 : p.ev.i = pre.length := by
        have : Good P T N ops (look st.env) (getH st.hp) st.nx (fun i => memN i p.xs) (p.ev :: pre) := by rw [hev] at hg; exact hg.tail
        exact this.1
      have hlen2 : p'.i = pre'.length := by
        have : Good P T N ops (look st.env) (getH st.hp) st.nx (fun i => memN i p.xs) (p' :: pre') := by rw [e1] at hg; exact hg.tail
        exact this.1
      have heq : p.ev :: pre = p' :: pre' := (List.append_inj' (hev.symm.trans e1) (by simp; omega)).2
      injection heq with hp1 hp2
      subst hp1
      subst hp2
      have hoo : o' = o := by have := ho'.op; rw [hpo.op] at this; injection this with this; exact this.symm
      subst hoo
      have hanp : ∀ x ∈ p.ev.an, L x = true := fun x hx => by
        rcases ho'.an x hx with hd | ⟨q, hq, hqd, hxq⟩
        · exact hrd _ hpo.op x hd
        · exact hgp.anc hcL q hq (hrd _ hpo.op _ hqd) x hxq
      have hpo1 : ∀ q ∈ post', L q.i = true → Apart p.ev q := fun q hq hlq => by
        obtain ⟨hlt, pre2, oq, hpm, hoq⟩ := hpost q hq
        rcases hoq.apart p.ev hpm with h | h
        · exfalso
          have := hg.anc hcL q (by rw [e1]; simp [hq]) hlq p.ev.i h
          rw [hLp] at this; cases this
        · exact h
      have hpr : ∀ q ∈ pre, L q.i = true ∨ Apart q p.ev := fun q hq => by
        rcases ho'.apart q hq with h | h
        · exact .inl (hanp _ h)
        · exact .inr h
      have seeE : ∀ k av, seenE (look st.env) p.ev.ks pre k = some av → val wrE outE (look st.env) L evs k = some av := fun k av h => by
        obtain ⟨hk, h⟩ := restr_spec h
        rw [e1, val_local (fun q hq hlq => (hpo1 q hq hlq).ks' k hk) hLp (fun q hq hw => ?_)]
        · exact h
        · rcases hpr q hq with h | h
          · exact h
          · rw [h.ks k hk] at hw; cases hw
      have seeH : ∀ j ob, seenH (getH st.hp) p.ev.js pre j = some ob → val wrH outH (getH st.hp) L evs j = some ob := fun j ob h => by
        obtain ⟨hk, h⟩ := restr_spec h
        rw [e1, val_local (fun q hq hlq => (hpo1 q hq hlq).js' j hk) hLp (fun q hq hw => ?_)]
        · exact h
        · rcases hpr q hq with h | h
          · exact h
          · rw [h.js j hk] at hw; cases hw
      have hE : EnvR F1 r1 (seenE (look st.env) p.ev.ks pre) a1 := fun k av h => hc1.env k av (seeE k av h)
      have hI : EnvIn (DL st.nx L evs) (seenE (look st.env) p.ev.ks pre) := fun k av h => hc1.inn k av (seeE k av h)
      have hpm : p.ev ∈ evs := by rw [hev]; simp
      have hnn : p.ev.eff.nn = p.eff.nn := by rw [hpo.nn]
      have hnx : ∀ j, p.ev.nx ≤ j → j < p.ev.nx + p.eff.nn → ¬ DL st.nx L evs j := fun j h1 h2 h3 => by
        rcases h3 with h3 | ⟨ev, g1, g2, g3, g4⟩
        · have := ho'.nx0; omega
        · rcases Nat.lt_trichotomy ev.i p.ev.i with h | h | h
          · have := hg.nxs ev g1 p.ev hpm h; omega
          · rw [h, hLp] at g2; cases g2
          · have := hg.nxs p.ev hpm ev g1 h; omega
      have hvH : val wrH outH (getH st.hp) L evs = getH (hpOf st.hp evs) := by
        rw [hpOf_get]
        funext j
        refine val_all fun q hq hw => ?_
        rcases calm_spec hb q hq with h | h
        · exact hanp _ h
        · unfold wrH at hw; rw [h] at hw; cases hw
      have hDM : ∀ j, More (DL st.nx L evs) p.ev.nx p.eff.nn j → j < nxt st.nx evs := fun j hj => by
        rcases hj with (hj | ⟨ev, g1, _, g3, g4⟩) | hj
        · exact Nat.lt_of_lt_of_le hj (nxt_le hg).1
        · exact Nat.lt_of_lt_of_le g4 ((nxt_le hg).2 ev g1)
        · have := (nxt_le hg).2 p.ev hpm; omega
      unfold wpOp
      rw [hpo.op]
      simp only []
      rw [hpo.guard.wanted hE, if_pos rfl]
      refine .inl (op_wpP hT hk seeH hc1.mem hnx hpo.run hE hI (.inr hpo.may) (fun hnp => by rw [hpo.pan] at hnp; cases hnp) fun x pv w' F' r' hx ha => ?_)
      have hxy : x = p.q := by
        have := hpo.pan
        unfold panE at this
        rw [hx] at this
        simpa only [isPan_panA, Option.some.injEq] using this
      subst hxy
      obtain ⟨hr, hi⟩ := ha.res _ hx
      obtain ⟨p', hp', hr'⟩ := panA_rep hr
      have : pv = p' := by
        unfold panV at hp'
        injection hp' with hp'
        have := congrArg (fun a : Array Value => a[3]?) hp'
        simpa using this
      subst this
      refine hQ F' r' a1 w' pv ⟨hc1.defers, hc1.size, fun k av h => (by cases h), fun k av h => (by cases h), ?_, fun j hj => by rw [ha.agree j (.inl (Nat.lt_of_lt_of_le hj hc1.mle))]; exact hc1.par j hj, Nat.le_trans hc1.mle (nxt_le hg).1⟩ hr' (Part.inn_mono hDM (panA_inn.1 hi : p.q.inn _))
      have := ha.mem.monoD hDM
      rw [hvH, updH_getH] at this
      exact this
end
end Go.Sz
