/-
  A symbolic machine for one call, with rows of any length: regions that draw their order.
  The operations are looked at once, in the order in which they are listed; each sees only the temporaries and the objects that it looks at.
  Any two that touch the same thing must be ordered by the region's edges. Then every order that the edges allow ends alike.
-/
import Derived.Test.YtoljppjibhnndaaSzX
namespace Go.Sz
open Go Go.RowKit Go.Sy
set_option linter.unusedVariables false
set_option linter.unusedSimpArgs false
set_option linter.constructorNameAsVariable false

structure Ev where
  i : Nat
  ks : List Nat
  js : List Nat
  an : List Nat
  nx : Nat
  dst : Option Tmp
  eff : Eff

def hasK : Hp → Nat → Bool
  | [], _ => false
  | (k, _) :: l, j => bif Nat.beq k j then true else hasK l j

def val {α : Type} (wr : Ev → Nat → Bool) (out : Ev → Nat → α) (b0 : Nat → α) (L : Nat → Bool) : List Ev → Nat → α
  | [], k => b0 k
  | ev :: l, k => bif L ev.i && wr ev k then out ev k else val wr out b0 L l k

def wrE (ev : Ev) (k : Nat) : Bool := isD ev.dst k
def outE (ev : Ev) (_ : Nat) : Option AV := ev.eff.res
def wrH (ev : Ev) (j : Nat) : Bool := hasK ev.eff.ups j
def outH (ev : Ev) (j : Nat) : Option Ob := getH ev.eff.ups j

theorem updH_has : ∀ (ups : Hp) (H : Hf) (j : Nat), updH ups H j = bif hasK ups j then getH ups j else H j
  | [], _, _ => rfl
  | (k, ob) :: l, H, j => by
    simp only [updH, hasK, getH]
    cases Nat.beq k j with
    | true => rfl
    | false => exact updH_has l H j

section
variable {α : Type} {wr : Ev → Nat → Bool} {out : Ev → Nat → α} {b0 : Nat → α}

theorem val_all {L L' : Nat → Bool} : ∀ {evs : List Ev} {k : Nat}, (∀ q ∈ evs, wr q k = true → L q.i = L' q.i) → val wr out b0 L evs k = val wr out b0 L' evs k
  | [], _, _ => rfl
  | ev :: l, k, h => by
    simp only [val]
    rw [val_all (evs := l) fun q hq => h q (List.mem_cons_of_mem _ hq)]
    cases hw : wr ev k with
    | false => simp
    | true => rw [h ev List.mem_cons_self hw]

theorem val_skip {L : Nat → Bool} : ∀ {post rest : List Ev} {k : Nat}, (∀ q ∈ post, L q.i = true → wr q k = false) → val wr out b0 L (post ++ rest) k = val wr out b0 L rest k
  | [], _, _, _ => rfl
  | ev :: l, rest, k, h => by
    simp only [List.cons_append, val]
    rw [val_skip (post := l) fun q hq => h q (List.mem_cons_of_mem _ hq)]
    cases hl : L ev.i with
    | false => simp
    | true => rw [h ev List.mem_cons_self hl]; rfl

/-- What an operation that may go next sees is what it was shown. -/
theorem val_local {L : Nat → Bool} {post pre : List Ev} {p : Ev} {k : Nat} (h1 : ∀ q ∈ post, L q.i = true → wr q k = false) (hp : L p.i = false) (h2 : ∀ q ∈ pre, wr q k = true → L q.i = true) :
    val wr out b0 L (post ++ p :: pre) k = val wr out b0 (fun _ => true) pre k := by
  rw [val_skip h1]
  simp only [val, hp, Bool.false_and, cond_false]
  exact val_all fun q hq hw => h2 q hq hw

theorem val_put {L L' : Nat → Bool} {p : Ev} (hL : ∀ j, j ≠ p.i → L' j = L j) (hp' : L' p.i = true) (hp : L p.i = false) {k : Nat} : ∀ {post pre : List Ev}, (∀ q ∈ post, q.i ≠ p.i) → (∀ q ∈ pre, q.i ≠ p.i) →
    (∀ q ∈ post, L q.i = true → wr p k = true → wr q k = false) → val wr out b0 L' (post ++ p :: pre) k = bif wr p k then out p k else val wr out b0 L (post ++ p :: pre) k
  | [], pre, _, h, _ => by
    simp only [List.nil_append, val, hp', hp, Bool.true_and, Bool.false_and, cond_false]
    congr 1
    exact val_all fun q hq _ => hL _ (h q hq)
  | ev :: l, pre, h0, h, h1 => by
    simp only [List.cons_append, val]
    rw [val_put hL hp' hp (fun q hq => h0 q (List.mem_cons_of_mem _ hq)) h (fun q hq => h1 q (List.mem_cons_of_mem _ hq)), hL _ (h0 ev List.mem_cons_self)]
    cases hl : L ev.i with
    | false => simp
    | true =>
      cases hw : wr p k with
      | false => simp
      | true => rw [h1 ev List.mem_cons_self hl hw]; simp
end

/-! ### Who touches what -/
def anyN (f : Nat → Bool) : List Nat → Bool
  | [] => false
  | x :: l => f x || anyN f l
theorem anyN_false {f : Nat → Bool} : ∀ {l : List Nat}, anyN f l = false → ∀ x ∈ l, f x = false
  | [], _, x, hx => by cases hx
  | y :: l, h, x, hx => by
    simp only [anyN, Bool.or_eq_false_iff] at h
    rcases List.mem_cons.1 hx with rfl | hx
    · exact h.1
    · exact anyN_false h.2 x hx

def anyK (f : Nat → Bool) : Hp → Bool
  | [] => false
  | (k, _) :: l => f k || anyK f l
theorem anyK_false {f : Nat → Bool} : ∀ {l : Hp}, anyK f l = false → ∀ j, hasK l j = true → f j = false
  | [], _, j, h => by cases h
  | (k, ob) :: l, hf, j, h => by
    simp only [anyK, Bool.or_eq_false_iff] at hf
    simp only [hasK, bif_beq] at h
    split at h
    · rename_i e; subst e; exact hf.1
    · exact anyK_false hf.2 j h

def sameD (p q : Option Tmp) : Bool := match p with
  | some d => isD q d
  | none => false

/-- Two operations that touch the same thing (one of them writes it). -/
def clash (q p : Ev) : Bool :=
  sameD q.dst p.dst || (anyN (isD q.dst) p.ks || (anyN (isD p.dst) q.ks || (anyK (hasK p.eff.ups) q.eff.ups || (anyN (hasK q.eff.ups) p.js || anyN (hasK p.eff.ups) q.js))))

structure Apart (q p : Ev) : Prop where
  dst : ∀ k, wrE q k = true → wrE p k = false
  ks : ∀ k ∈ p.ks, wrE q k = false
  ks' : ∀ k ∈ q.ks, wrE p k = false
  ups : ∀ j, wrH q j = true → wrH p j = false
  js : ∀ j ∈ p.js, wrH q j = false
  js' : ∀ j ∈ q.js, wrH p j = false

theorem isD_iff {dst : Option Tmp} {k : Nat} : isD dst k = true ↔ dst = some k := by
  cases dst with
  | none => simp [isD]
  | some d =>
    simp only [isD, Option.some.injEq]
    constructor
    · exact Nat.eq_of_beq_eq_true
    · intro h; subst h; simp

theorem clash_spec {q p : Ev} (h : clash q p = false) : Apart q p := by
  simp only [clash, Bool.or_eq_false_iff] at h
  obtain ⟨h1, h2, h3, h4, h5, h6⟩ := h
  refine ⟨fun k hk => ?_, anyN_false h2, anyN_false h3, anyK_false h4, anyN_false h5, anyN_false h6⟩
  have := isD_iff.1 hk
  rw [this] at h1
  exact h1

def direct (o : Oper) : List Nat := (o.after.toList.filter fun e => Region.binds .any e).map (·.on)

def DL (nx0 : Nat) (L : Nat → Bool) (evs : List Ev) (j : Nat) : Prop := j < nx0 ∨ ∃ ev ∈ evs, L ev.i = true ∧ ev.nx ≤ j ∧ j < ev.nx + ev.eff.nn

def restr {α : Type} (ks : List Nat) (f : Nat → Option α) : Nat → Option α := fun k => bif memN k ks then f k else none

theorem restr_spec {α : Type} {ks : List Nat} {f : Nat → Option α} {k : Nat} {x : α} (h : restr ks f k = some x) : k ∈ ks ∧ f k = some x := by
  unfold restr at h
  cases hb : memN k ks with
  | false => rw [hb] at h; cases h
  | true => rw [hb] at h; exact ⟨memN_iff.1 hb, h⟩

section
variable (P : Program) (T : FuncId → Option Summ) (N : Nat) (ops : Array Oper) (E0 : Ef) (H0 : Hf) (nx0 : Nat)

def seenE (ks : List Nat) (pre : List Ev) : Ef := restr ks (val wrE outE E0 (fun _ => true) pre)
def seenH (js : List Nat) (pre : List Ev) : Hf := restr js (val wrH outH H0 (fun _ => true) pre)

structure EvOk (ev : Ev) (pre : List Ev) (o : Oper) : Prop where
  op : ops[ev.i]? = some o
  dst : ev.dst = o.dst
  dOk : dstOk N o.dst = true
  eOk : effOk o.dst ev.eff = true
  edge : ∀ e ∈ direct o, e < ev.i
  an : ∀ a ∈ ev.an, a ∈ direct o ∨ ∃ q ∈ pre, q.i ∈ direct o ∧ a ∈ q.an
  apart : ∀ q ∈ pre, q.i ∈ ev.an ∨ Apart q ev
  nx : ∀ q ∈ pre, q.nx + q.eff.nn ≤ ev.nx
  nx0 : nx0 ≤ ev.nx
  run : ∃ b, GuardIs ops o (seenE E0 ev.ks pre) b ∧ ((b = true ∧ (opT P T (seenH H0 ev.js pre) (seenE E0 ev.ks pre) ev.nx o).run = some ev.eff) ∨ (b = false ∧ ev.eff = skipEff))

def Good : List Ev → Prop
  | [] => True
  | ev :: pre => ev.i = pre.length ∧ (∃ o, EvOk P T N ops E0 H0 nx0 ev pre o) ∧ Good pre
end

section
variable {P : Program} {T : FuncId → Option Summ} {N : Nat} {ops : Array Oper} {E0 : Ef} {H0 : Hf} {nx0 : Nat}

theorem Good.lt : ∀ {evs : List Ev}, Good P T N ops E0 H0 nx0 evs → ∀ q ∈ evs, q.i < evs.length
  | [], _, q, hq => by cases hq
  | ev :: pre, h, q, hq => by
    rcases List.mem_cons.1 hq with rfl | hq
    · rw [h.1]; simp
    · have := Good.lt h.2.2 q hq; simp; omega

theorem Good.cut : ∀ {evs : List Ev}, Good P T N ops E0 H0 nx0 evs → ∀ i, i < evs.length → ∃ post p pre, evs = post ++ p :: pre ∧ p.i = i ∧ (∃ o, EvOk P T N ops E0 H0 nx0 p pre o) ∧ Good P T N ops E0 H0 nx0 pre ∧ (∀ q ∈ post, p.i < q.i ∧ ∃ pre' o, p ∈ pre' ∧ EvOk P T N ops E0 H0 nx0 q pre' o) ∧ (∀ q ∈ pre, q.i < p.i)
  | [], _, i, h => by simp at h
  | ev :: pre, h, i, hi => by
    by_cases he : i = pre.length
    · refine ⟨[], ev, pre, rfl, by rw [h.1, he], h.2.1, h.2.2, (fun q hq => by cases hq), fun q hq => ?_⟩
      rw [h.1]; exact Good.lt h.2.2 q hq
    · obtain ⟨post, p, pre', e1, e2, e3, e4, e5, e6⟩ := Good.cut h.2.2 i (by simp at hi; omega)
      refine ⟨ev :: post, p, pre', by rw [e1]; rfl, e2, e3, e4, fun q hq => ?_, e6⟩
      rcases List.mem_cons.1 hq with rfl | hq
      · have hp : p ∈ pre := by rw [e1]; simp
        refine ⟨?_, pre, ?_⟩
        · rw [h.1]; exact Good.lt h.2.2 p hp
        · obtain ⟨o, ho⟩ := h.2.1
          exact ⟨o, hp, ho⟩
      · exact e5 q hq

def Closed (ops : Array Oper) (L : Nat → Bool) : Prop := ∀ i o, ops[i]? = some o → L i = true → ∀ e ∈ direct o, L e = true

theorem Good.anc {L : Nat → Bool} (hL : Closed ops L) : ∀ {evs : List Ev}, Good P T N ops E0 H0 nx0 evs → ∀ ev ∈ evs, L ev.i = true → ∀ a ∈ ev.an, L a = true
  | [], _, ev, hev, _, _, _ => by cases hev
  | e :: pre, h, ev, hev, hl, a, ha => by
    rcases List.mem_cons.1 hev with rfl | hev
    · obtain ⟨o, ho⟩ := h.2.1
      rcases ho.an a ha with hd | ⟨q, hq, hqd, haq⟩
      · exact hL _ _ ho.op hl a hd
      · exact Good.anc hL h.2.2 q hq (hL _ _ ho.op hl q.i hqd) a haq
    · exact Good.anc hL h.2.2 ev hev hl a ha

theorem Good.nxs : ∀ {evs : List Ev}, Good P T N ops E0 H0 nx0 evs → ∀ p ∈ evs, ∀ q ∈ evs, p.i < q.i → p.nx + p.eff.nn ≤ q.nx
  | [], _, p, hp, _, _, _ => by cases hp
  | e :: pre, h, p, hp, q, hq, hlt => by
    rcases List.mem_cons.1 hp with hp' | hp'
    · rcases List.mem_cons.1 hq with hq' | hq'
      · rw [hp', hq'] at hlt; omega
      · have := Good.lt h.2.2 q hq'; rw [hp', h.1] at hlt; omega
    · rcases List.mem_cons.1 hq with hq' | hq'
      · obtain ⟨o, ho⟩ := h.2.1; rw [hq']; exact ho.nx p hp'
      · exact Good.nxs h.2.2 p hp' q hq' hlt

structure ConcL (N : Nat) (w0 : World) (S : Nat → Nat → Prop) (R0 : Frag) (m : Nat) (r0 : Loc) (E0 : Ef) (H0 : Hf) (nx0 : Nat) (evs : List Ev) (L : Nat → Bool) (F : Frag) (r : Loc) (a : Act) (w : World) : Prop where
  defers : a.defers = []
  size : a.tmps.size = N
  env : EnvR F r (val wrE outE E0 L evs) a
  inn : EnvIn (DL nx0 L evs) (val wrE outE E0 L evs)
  mem : Mem w0 S R0 (DL nx0 L evs) (val wrH outH H0 L evs) F r w
  par : ∀ j, j < m → r j = r0 j
  mle : m ≤ nx0

variable {w0 : World} {S : Nat → Nat → Prop} {R0 : Frag} {m : Nat} {r0 : Loc}

/-- One more operation, whichever may go. -/
theorem ConcL.take {K : Know} (hT : TOk K P T) (hk : K.ok R0) {evs : List Ev} (hg : Good P T N ops E0 H0 nx0 evs) (hlen : evs.length = ops.size) {L L' : Nat → Bool} {i : Nat} (hi : i < ops.size) (hLi : L i = false) (hL : Closed ops L)
    (hready : ∀ o, ops[i]? = some o → ∀ e ∈ direct o, L e = true) (hL' : ∀ j, j ≠ i → L' j = L j) (hLi' : L' i = true) {F : Frag} {r : Loc} {a : Act} {w : World} (hc : ConcL N w0 S R0 m r0 E0 H0 nx0 evs L F r a w)
    {Q : Exit → Act → World → Prop} {KK : Act → World → Prop} (hK : ∀ F' r' a' w', ConcL N w0 S R0 m r0 E0 H0 nx0 evs L' F' r' a' w' → KK a' w') : wpOp P ops Q i KK a w := by
  obtain ⟨post, p, pre, rfl, rfl, ⟨o, ho⟩, hgp, hpost, hpre⟩ := hg.cut i (by omega)
  have hanp : ∀ x ∈ p.an, L x = true := fun x hx => by
    rcases ho.an x hx with hd | ⟨q, hq, hqd, hxq⟩
    · exact hready o ho.op x hd
    · exact hgp.anc hL q hq (hready o ho.op _ hqd) x hxq
  -- those behind it that went already are apart from it
  have hpo : ∀ q ∈ post, L q.i = true → Apart p q := fun q hq hlq => by
    obtain ⟨hlt, pre', oq, hpm, hoq⟩ := hpost q hq
    rcases hoq.apart p hpm with h | h
    · exfalso
      have := hg.anc hL q (by simp [hq]) hlq p.i h
      rw [hLi] at this; cases this
    · exact h
  have hpr : ∀ q ∈ pre, L q.i = true ∨ Apart q p := fun q hq => by
    rcases ho.apart q hq with h | h
    · exact .inl (hanp _ h)
    · exact .inr h
  have seeE : ∀ k av, seenE E0 p.ks pre k = some av → val wrE outE E0 L (post ++ p :: pre) k = some av := fun k av h => by
    obtain ⟨hk, h⟩ := restr_spec h
    rw [val_local (fun q hq hlq => (hpo q hq hlq).ks' k hk) hLi (fun q hq hw => ?_)]
    · exact h
    · rcases hpr q hq with h | h
      · exact h
      · rw [h.ks k hk] at hw; cases hw
  have seeH : ∀ j ob, seenH H0 p.js pre j = some ob → val wrH outH H0 L (post ++ p :: pre) j = some ob := fun j ob h => by
    obtain ⟨hk, h⟩ := restr_spec h
    rw [val_local (fun q hq hlq => (hpo q hq hlq).js' j hk) hLi (fun q hq hw => ?_)]
    · exact h
    · rcases hpr q hq with h | h
      · exact h
      · rw [h.js j hk] at hw; cases hw
  have hne1 : ∀ q ∈ post, q.i ≠ p.i := fun q hq => by have := (hpost q hq).1; omega
  have hne2 : ∀ q ∈ pre, q.i ≠ p.i := fun q hq => by have := hpre q hq; omega
  have putEq : ∀ k, val wrE outE E0 L' (post ++ p :: pre) k = bif isD o.dst k then p.eff.res else val wrE outE E0 L (post ++ p :: pre) k := fun k => by
    rw [val_put hL' hLi' hLi hne1 hne2 (fun q hq hlq hw => (hpo q hq hlq).dst k hw)]
    simp only [wrE, outE, ho.dst]
  have putHq : val wrH outH H0 L' (post ++ p :: pre) = updH p.eff.ups (val wrH outH H0 L (post ++ p :: pre)) := by
    funext j
    rw [val_put hL' hLi' hLi hne1 hne2 (fun q hq hlq hw => (hpo q hq hlq).ups j hw), updH_has]
    rfl
  have hDD : ∀ j, DL nx0 L (post ++ p :: pre) j → DL nx0 L' (post ++ p :: pre) j := fun j hj => by
    rcases hj with hj | ⟨ev, h1, h2, h3⟩
    · exact .inl hj
    · refine .inr ⟨ev, h1, ?_, h3⟩
      by_cases e : ev.i = p.i
      · rw [e]; exact hLi'
      · rw [hL' _ e]; exact h2
  have hDM : ∀ j, More (DL nx0 L (post ++ p :: pre)) p.nx p.eff.nn j → DL nx0 L' (post ++ p :: pre) j := fun j hj => by
    rcases hj with hj | hj
    · exact hDD j hj
    · exact .inr ⟨p, by simp, hLi', hj⟩
  have next : ∀ v F' r' w', After w0 S R0 (DL nx0 L (post ++ p :: pre)) (val wrH outH H0 L (post ++ p :: pre)) F r p.nx p.eff F' r' w' v → KK (a.put o.dst v) w' := fun v F' r' w' ha => by
    refine hK F' r' _ w' ⟨by rw [put_defers]; exact hc.defers, by rw [put_size]; exact hc.size, ?_, ?_, ?_, fun j hj => by rw [ha.agree j (.inl (Nat.lt_of_lt_of_le hj hc.mle))]; exact hc.par j hj, hc.mle⟩
    · exact (hc.env.to hc.inn ha.le ha.agree).put hc.size ho.dOk ho.eOk (fun av hav => (ha.res av hav).1) putEq
    · intro k av hk
      rw [putEq] at hk
      cases hi : isD o.dst k with
      | true => rw [hi] at hk; exact AV.inn_mono hDM (ha.res av hk).2
      | false => rw [hi] at hk; exact AV.inn_mono hDD (hc.inn k av hk)
    · rw [putHq]; exact ha.mem.monoD hDM
  have hE : EnvR F r (seenE E0 p.ks pre) a := fun k av h => hc.env k av (seeE k av h)
  have hI : EnvIn (DL nx0 L (post ++ p :: pre)) (seenE E0 p.ks pre) := fun k av h => hc.inn k av (seeE k av h)
  have hnx : ∀ j, p.nx ≤ j → j < p.nx + p.eff.nn → ¬ DL nx0 L (post ++ p :: pre) j := fun j h1 h2 h3 => by
    rcases h3 with h3 | ⟨ev, g1, g2, g3, g4⟩
    · have := ho.nx0; omega
    · have hp : p ∈ post ++ p :: pre := by simp
      rcases Nat.lt_trichotomy ev.i p.i with h | h | h
      · have := hg.nxs ev g1 p hp h; omega
      · rw [h, hLi] at g2; cases g2
      · have := hg.nxs p hp ev g1 h; omega
  obtain ⟨b, hgd, hrun⟩ := ho.run
  unfold wpOp
  rw [ho.op]
  simp only []
  rw [hgd.wanted hE]
  rcases hrun with ⟨rfl, hrun⟩ | ⟨rfl, hrun⟩
  · rw [if_pos rfl]
    exact .inl (op_wp hT hk seeH hc.mem hnx hrun hE hI fun v w' F' r' ha => next v F' r' w' ha)
  · rw [if_neg (by simp)]
    refine next undef F r w ⟨fun _ _ => rfl, Frag.le_refl F, ?_, fun av hav => ?_⟩
    · rw [hrun]; exact hc.mem.monoD (fun j hj => .inl hj)
    · rw [hrun] at hav
      injection hav with hav; subst hav
      exact ⟨undef_rep F r, fun x hx => by cases hx⟩

theorem edge_direct {o : Oper} {e : Edge} (h : e ∈ o.after) (hb : Region.binds .any e = true) : e.on ∈ direct o := by
  unfold direct
  exact List.mem_map.2 ⟨e, List.mem_filter.2 ⟨by simpa using h, hb⟩, rfl⟩
theorem direct_edge {o : Oper} {x : Nat} (h : x ∈ direct o) : ∃ e ∈ o.after, Region.binds .any e = true ∧ e.on = x := by
  unfold direct at h
  obtain ⟨e, he, rfl⟩ := List.mem_map.1 h
  obtain ⟨h1, h2⟩ := List.mem_filter.1 he
  exact ⟨e, by simpa using h1, h2, rfl⟩

theorem getD_set (l : Array Bool) (i j : Nat) (d : Bool) (hi : i < l.size) : (l.setIfInBounds i true).getD j d = if i = j then true else l.getD j d := by
  simp only [Array.getD_eq_getD_getElem?, Array.getElem?_setIfInBounds]
  by_cases h : i = j
  · subst h; simp [hi]
  · simp [h]

theorem drawn_wp {K : Know} (hT : TOk K P T) (hk : K.ok R0) {evs : List Ev} (hg : Good P T N ops E0 H0 nx0 evs) (hlen : evs.length = ops.size) {Q : Exit → Act → World → Prop}
    (hQ : ∀ F r a w, ConcL N w0 S R0 m r0 E0 H0 nx0 evs (fun _ => true) F r a w → Q .normal a w) :
    ∀ (fuel : Nat) (listed : Array Bool) (U : List Nat) (F : Frag) (r : Loc) (a : Act) (w : World), listed.size = ops.size → (∀ i, i < ops.size → listed.getD i true = false → i ∈ U) → U.length ≤ fuel → Closed ops (fun i => listed.getD i false) →
      ConcL N w0 S R0 m r0 E0 H0 nx0 evs (fun i => listed.getD i false) F r a w → wpAny P .any ops Q fuel listed a w := by
  have done : ∀ (listed : Array Bool) (F : Frag) (r : Loc) (a : Act) (w : World), listed.size = ops.size → (∀ i, i < ops.size → listed.getD i true = true) → ConcL N w0 S R0 m r0 E0 H0 nx0 evs (fun i => listed.getD i false) F r a w → Q .normal a w := by
    intro listed F r a w hsz hall hc
    have hL : ∀ q ∈ evs, listed.getD q.i false = true := fun q hq => by
      have h1 := hg.lt q hq
      have h2 := hall q.i (by omega)
      rw [Array.getD_eq_getD_getElem?] at h2 ⊢
      rw [Array.getElem?_eq_getElem (by omega)] at h2 ⊢
      exact h2
    have e1 : val wrE outE E0 (fun i => listed.getD i false) evs = val wrE outE E0 (fun _ => true) evs := by funext k; exact val_all fun q hq _ => hL q hq
    have e2 : val wrH outH H0 (fun i => listed.getD i false) evs = val wrH outH H0 (fun _ => true) evs := by funext k; exact val_all fun q hq _ => hL q hq
    have hD : ∀ j, DL nx0 (fun i => listed.getD i false) evs j → DL nx0 (fun _ => true) evs j := fun j hj => by
      rcases hj with hj | ⟨ev, h1, h2, h3⟩
      · exact .inl hj
      · exact .inr ⟨ev, h1, rfl, h3⟩
    refine hQ F r a w ⟨hc.defers, hc.size, by rw [← e1]; exact hc.env, ?_, by rw [← e2]; exact hc.mem.monoD hD, hc.par, hc.mle⟩
    rw [← e1]
    exact fun k av h => AV.inn_mono hD (hc.inn k av h)
  intro fuel
  induction fuel with
  | zero =>
    intro listed U F r a w hsz hU hl hcl hc
    have hU0 : U = [] := List.length_eq_zero_iff.1 (by omega)
    have hall : ∀ i, i < ops.size → listed.getD i true = true := fun i hi => by
      cases hb : listed.getD i true with
      | true => rfl
      | false => have := hU i hi hb; rw [hU0] at this; cases this
    refine ⟨List.eq_nil_iff_forall_not_mem.2 fun j hj => ?_, done listed F r a w hsz hall hc⟩
    obtain ⟨h1, o, h2, _⟩ := mem_ready.1 hj
    have hj' : j < ops.size := by
      rcases Nat.lt_or_ge j ops.size with h | h
      · exact h
      · rw [Array.getElem?_eq_none h] at h2; cases h2
    rw [hall j hj'] at h1; cases h1
  | succ fuel ih =>
    intro listed U F r a w hsz hU hl hcl hc
    constructor
    · intro hr
      refine done listed F r a w hsz (fun i hi => ?_) hc
      have key : ∀ n i, i < n → i < ops.size → listed.getD i true = true := by
        intro n
        induction n with
        | zero => intro i h; omega
        | succ n ihn =>
          intro i hin hi
          cases hb : listed.getD i true with
          | true => rfl
          | false =>
            exfalso
            obtain ⟨post, p, pre, e1, e2, ⟨o, ho⟩, _, _, _⟩ := hg.cut i (by omega)
            subst e2
            have : p.i ∈ Region.ready .any ops listed := mem_ready.2 ⟨hb, o, ho.op, fun e he hbind => by
              have h1 := ho.edge _ (edge_direct he hbind)
              have h2 := ihn e.on (by omega) (by omega)
              rw [Array.getD_eq_getD_getElem?] at h2 ⊢
              rw [Array.getElem?_eq_getElem (by omega)] at h2 ⊢
              exact h2⟩
            rw [hr] at this; cases this
      exact key (i + 1) i (by omega) hi
    · intro i hi
      obtain ⟨h1, o, h2, h3⟩ := mem_ready.1 hi
      have hi' : i < ops.size := by
        rcases Nat.lt_or_ge i ops.size with h | h
        · exact h
        · rw [Array.getElem?_eq_none h] at h2; cases h2
      have hLi : listed.getD i false = false := by
        rw [Array.getD_eq_getD_getElem?] at h1 ⊢
        rw [Array.getElem?_eq_getElem (by omega)] at h1 ⊢
        exact h1
      refine hc.take hT hk hg hlen (L' := fun j => (listed.setIfInBounds i true).getD j false) hi' hLi hcl (fun o' ho' e he => ?_) (fun j hj => ?_) ?_ (fun F' r' a' w' hc' => ?_)
      · rw [h2] at ho'; injection ho' with ho'; subst ho'
        obtain ⟨ed, g1, g2, rfl⟩ := direct_edge he
        exact h3 ed g1 g2
      · show (listed.setIfInBounds i true).getD j false = _
        rw [getD_set _ _ _ _ (by omega), if_neg (Ne.symm hj)]
      · show (listed.setIfInBounds i true).getD i false = _
        rw [getD_set _ _ _ _ (by omega), if_pos rfl]
      · have hmem : i ∈ U := hU i hi' h1
        refine ih (listed.setIfInBounds i true) (U.erase i) F' r' a' w' (by simpa using hsz) (fun j hj hlj => ?_) (by rw [List.length_erase_of_mem hmem]; omega) (fun j o' ho' hlj e he => ?_) hc'
        · rw [getD_set _ _ _ _ (by omega)] at hlj
          split at hlj
          · cases hlj
          · rename_i hne
            exact (List.mem_erase_of_ne (Ne.symm hne)).2 (hU j hj hlj)
        · show (listed.setIfInBounds i true).getD e false = true
          rw [getD_set _ _ _ _ (by omega)]
          split
          · rfl
          · have hlj' : (listed.setIfInBounds i true).getD j false = true := hlj
            rw [getD_set _ _ _ _ (by omega)] at hlj'
            split at hlj'
            · rename_i e1; subst e1
              rw [h2] at ho'; injection ho' with ho'; subst ho'
              obtain ⟨ed, g1, g2, rfl⟩ := direct_edge he
              exact h3 ed g1 g2
            · exact hcl j o' ho' hlj' e he
end
end Go.Sz
