/-
  A symbolic machine for one call: steps, regions.
-/
import Derived.Test.YtlaaljiffcablaaGreatDoorSyG
namespace Go.Sy
open Go Go.RowKit

structure St where
  env : Env
  hp : Hp

structure Conc (N : Nat) (w0 : World) (S : Nat → Nat → Prop) (m : Nat) (r0 r : Loc) (st : St) (a : Act) (w : World) : Prop where
  defers : a.defers = []
  size : a.tmps.size = N
  env : EnvOk r st.env a
  elt : ∀ k av, look st.env k = some av → av.lt st.hp.length
  mem : Mem w0 S m r0 r st.hp w

def putE (dst : Option Tmp) (av : AV) (env : Env) : Env := match dst with
  | some d => (d, av) :: env
  | none => env

def dstOk (N : Nat) (dst : Option Tmp) : Bool := match dst with
  | some d => Nat.blt d N
  | none => true

theorem look_cons (d : Nat) (av : AV) (env : Env) (k : Nat) : look ((d, av) :: env) k = if d = k then some av else look env k := by
  simp only [look]
  by_cases h : d = k
  · subst h; simp
  · have : Nat.beq d k = false := by
      cases hb : Nat.beq d k with
      | false => rfl
      | true => exact absurd (Nat.eq_of_beq_eq_true hb) h
    rw [this, if_neg h]; rfl

theorem put_size (a : Act) (d : Option Tmp) (v : Value) : (a.put d v).tmps.size = a.tmps.size := by cases d <;> simp [Act.put]
theorem put_defers (a : Act) (d : Option Tmp) (v : Value) : (a.put d v).defers = a.defers := by cases d <;> rfl

theorem EnvOk.put {r : Loc} {env : Env} {a : Act} (h : EnvOk r env a) {N : Nat} (hN : a.tmps.size = N) {dst : Option Tmp} (hd : dstOk N dst = true) (av : AV) : EnvOk r (putE dst av env) (a.put dst (av.den r)) := by
  cases dst with
  | none => exact h
  | some d =>
    have hlt : d < N := Nat.le_of_ble_eq_true hd
    intro k x hx
    simp only [putE] at hx
    rw [look_cons] at hx
    simp only [Act.put]
    by_cases hdk : d = k
    · subst hdk
      rw [if_pos rfl] at hx
      injection hx with hx; subst hx
      rw [Array.getElem?_setIfInBounds_self_of_lt (by rw [hN]; exact hlt)]
    · rw [if_neg hdk] at hx
      rw [Array.getElem?_setIfInBounds_ne hdk]
      exact h k x hx

theorem elt_put {n : Nat} {env : Env} (h : ∀ k av, look env k = some av → av.lt n) {dst : Option Tmp} {av : AV} (ha : av.lt n) : ∀ k x, look (putE dst av env) k = some x → x.lt n := by
  intro k x hx
  cases dst with
  | none => exact h k x hx
  | some d =>
    simp only [putE] at hx
    rw [look_cons] at hx
    split at hx
    · injection hx with hx; subst hx; exact ha
    · exact h k x hx

theorem EnvOk.agree {n : Nat} {r r' : Loc} {env : Env} {a : Act} (h : EnvOk r env a) (hl : ∀ k av, look env k = some av → av.lt n) (ha : Loc.agree n r r') : EnvOk r' env a := fun k av hk => by
  rw [AV.den_agree ha (hl k av hk)]; exact h k av hk

/-! ### Guards -/
def guardT {α : Type} (ops : Array Oper) (o : Oper) (env : Env) (yes no : Env → Tree α) : Tree α := match o.guard with
  | none => yes env
  | some (g, want) => match (ops[g]?).bind (·.dst) with
    | none => .fail
    | some t => match look env t with
      | some (.p (.one (.v (.bool c)))) => .ite (bif want then c else !c) (yes ((t, AV.b want) :: env)) (no ((t, AV.b (!want)) :: env))
      | some (.t _) => no env
      | _ => .fail

theorem guardT_spec {α : Type} {ops : Array Oper} {o : Oper} {env : Env} {yes no : Env → Tree α} {x : α} (h : (guardT ops o env yes no).run = some x) {r : Loc} {a : Act} (he : EnvOk r env a)
    {n : Nat} (hl : ∀ k av, look env k = some av → av.lt n) :
    ∃ env', EnvOk r env' a ∧ (∀ k av, look env' k = some av → av.lt n) ∧
      ((Region.wanted o (yielded ops a.tmps) = true ∧ (yes env').run = some x) ∨ (Region.wanted o (yielded ops a.tmps) = false ∧ (no env').run = some x)) := by
  unfold guardT at h
  unfold Region.wanted
  split at h
  · rename_i hg
    exact ⟨env, he, hl, .inl ⟨by rw [hg], h⟩⟩
  · rename_i g want hg
    rw [hg]
    split at h
    · cases h
    rename_i t ht
    have assume : ∀ c : Bool, look env t = some (AV.b c) → EnvOk r ((t, AV.b c) :: env) a ∧ (∀ k av, look ((t, AV.b c) :: env) k = some av → av.lt n) := fun c hc => by
      refine ⟨fun k av hk => ?_, fun k av hk => ?_⟩ <;> rw [look_cons] at hk <;> split at hk
      · rename_i e; subst e; injection hk with hk; subst hk; exact he t _ hc
      · exact he k av hk
      · injection hk with hk; subst hk; trivial
      · exact hl k av hk
    split at h
    · rename_i c hc
      have hv := he t _ hc
      simp only [AV.den, Part.den, Cell.den] at hv
      have hy : yielded ops a.tmps g = some c := by unfold yielded; rw [ht]; simp [hv]
      simp only [Tree.run] at h
      obtain ⟨h1, h2⟩ := assume c hc
      cases want <;> cases c <;> simp only [cond_true, cond_false, Bool.not_true, Bool.not_false] at h
      · exact ⟨_, h1, h2, .inl ⟨by simp [hy], h⟩⟩
      · exact ⟨_, h1, h2, .inr ⟨by simp [hy], h⟩⟩
      · exact ⟨_, h1, h2, .inr ⟨by simp [hy], h⟩⟩
      · exact ⟨_, h1, h2, .inl ⟨by simp [hy], h⟩⟩
    · rename_i l hc
      have hv := he t _ hc
      simp only [AV.den] at hv
      have hy : yielded ops a.tmps g = none := by unfold yielded; rw [ht]; simp [hv]
      exact ⟨env, he, hl, .inr ⟨by simp [hy], h⟩⟩
    · cases h

/-! ### One operation that is wanted, in a plain region -/
def isAct : Op → Bool
  | .alloc _ => true
  | .box .. => true
  | .store .. => true
  | .call c => match c.callee with
    | .value _ => true
    | _ => false
  | _ => false

def rvA (x : Option AV) : AV := match x with
  | some v => v
  | none => .t []

theorem rvA_den (r : Loc) (x : Option AV) : (rvA x).den r = rvDen r x := by cases x <;> rfl

def exec1 (P : Program) (T : FuncId → Option Summ) (N : Nat) (hp : Hp) (env : Env) (o : Oper) : Tree St :=
  bif dstOk N o.dst then
    (bif isAct o.op then match act P T hp env o with
      | some x => .ite x.ck (.ret ⟨putE o.dst (rvA x.res) env, x.hp⟩) .fail
      | none => .fail
    else (sil P hp env o).bind fun av => .ret ⟨putE o.dst av env, hp⟩)
  else .fail

def skip1 (N : Nat) (hp : Hp) (env : Env) (o : Oper) : Tree St := bif dstOk N o.dst then .ret ⟨putE o.dst (.t []) env, hp⟩ else .fail

section
variable {P : Program} {T : FuncId → Option Summ} {N : Nat} {w0 : World} {S : Nat → Nat → Prop} {m : Nat} {r0 : Loc}

theorem Conc.put {r : Loc} {st : St} {a : Act} {w : World} (h : Conc N w0 S m r0 r st a w) {env : Env} (he : EnvOk r env a) (hl : ∀ k av, look env k = some av → av.lt st.hp.length)
    {dst : Option Tmp} (hd : dstOk N dst = true) {av : AV} (ha : av.lt st.hp.length) : Conc N w0 S m r0 r ⟨putE dst av env, st.hp⟩ (a.put dst (av.den r)) w :=
  ⟨by rw [put_defers]; exact h.defers, by rw [put_size]; exact h.size, he.put h.size hd av, elt_put hl ha, h.mem⟩

theorem Conc.after {r r' : Loc} {st : St} {a : Act} {w w' : World} (h : Conc N w0 S m r0 r st a w) {env : Env} (he : EnvOk r env a) (hl : ∀ k av, look env k = some av → av.lt st.hp.length)
    {dst : Option Tmp} (hd : dstOk N dst = true) {x : Act'} (ha : After w0 S m r0 r st.hp w x r' w') : Conc N w0 S m r0 r' ⟨putE dst (rvA x.res) env, x.hp⟩ (a.put dst (rvDen r' x.res)) w' := by
  have he' := he.agree hl ha.agree
  have hl' : ∀ k av, look env k = some av → av.lt x.hp.length := fun k av hk => AV.lt_mono ha.le (hl k av hk)
  refine ⟨by rw [put_defers]; exact h.defers, by rw [put_size]; exact h.size, ?_, elt_put hl' ?_, ha.mem⟩
  · rw [← rvA_den]; exact he'.put h.size hd _
  · cases hx : x.res with
    | none => intro c hc; cases hc
    | some v => exact ha.lt v hx

theorem exec1_wp (hT : TOkAt P T w0 S) {ops : Array Oper} {i : Nat} {o : Oper} (ho : ops[i]? = some o) {st st' : St} {env : Env} (h : (exec1 P T N st.hp env o).run = some st') {r : Loc} {a : Act} {w : World}
    (hc : Conc N w0 S m r0 r st a w) (he : EnvOk r env a) (hl : ∀ k av, look env k = some av → av.lt st.hp.length) (hw : Region.wanted o (yielded ops a.tmps) = true)
    {K : Act → World → Prop} {Q : Exit → Act → World → Prop} (hK : ∀ r' a' w', Conc N w0 S m r0 r' st' a' w' → K a' w') : wpOp P ops Q i K a w := by
  unfold exec1 at h
  unfold wpOp
  simp only [ho, hw, if_true]
  refine .inl ?_
  cases hd : dstOk N o.dst with
  | false => rw [hd] at h; cases h
  | true =>
    rw [hd] at h
    simp only [cond_true] at h
    cases ha : isAct o.op with
    | true =>
      rw [ha] at h
      simp only [cond_true] at h
      split at h
      · rename_i x hx
        obtain ⟨hck, h⟩ := Tree.run_ck h
        simp only [Tree.run, Option.some.injEq] at h; subst h
        exact act_wp hT hx hck he hl hc.mem fun r' w' haft => hK r' _ w' (hc.after he hl hd haft)
      · cases h
    | false =>
      rw [ha] at h
      simp only [cond_false] at h
      obtain ⟨av, hav, h2⟩ := Tree.run_bind_some h
      simp only [Tree.run, Option.some.injEq] at h2; subst h2
      have hrun := sil_run hav he (w := w) (fun _ => hc.mem.heap)
      unfold Oper.wp
      rw [hrun]
      simp only [Oper.upon]
      exact hK r _ w (hc.put he hl hd (sil_lt hl hc.mem.hlt hav))

theorem skip1_wp {ops : Array Oper} {i : Nat} {o : Oper} (ho : ops[i]? = some o) {st st' : St} {env : Env} (h : (skip1 N st.hp env o).run = some st') {r : Loc} {a : Act} {w : World}
    (hc : Conc N w0 S m r0 r st a w) (he : EnvOk r env a) (hl : ∀ k av, look env k = some av → av.lt st.hp.length) (hw : Region.wanted o (yielded ops a.tmps) = false)
    {K : Act → World → Prop} {Q : Exit → Act → World → Prop} (hK : ∀ r' a' w', Conc N w0 S m r0 r' st' a' w' → K a' w') : wpOp P ops Q i K a w := by
  unfold skip1 at h
  unfold wpOp
  simp only [ho, hw, Bool.false_eq_true, if_false]
  cases hd : dstOk N o.dst with
  | false => rw [hd] at h; cases h
  | true =>
    rw [hd] at h
    simp only [cond_true, Tree.run, Option.some.injEq] at h; subst h
    exact hK r _ w (hc.put he hl hd (av := .t []) (fun x hx => by cases hx))

/-! ### A plain region -/
def seqL (P : Program) (T : FuncId → Option Summ) (N : Nat) (ops : Array Oper) : List Oper → St → Tree St
  | [], st => .ret st
  | o :: l, st => (guardT ops o st.env (fun env => exec1 P T N st.hp env o) (fun env => skip1 N st.hp env o)).bind (seqL P T N ops l)

theorem seqL_wp (hT : TOkAt P T w0 S) {ops : Array Oper} {Q : Exit → Act → World → Prop} {st' : St} (hQ : ∀ r' a' w', Conc N w0 S m r0 r' st' a' w' → Q .normal a' w') :
    ∀ (rest pre : List Oper) (st : St) (r : Loc) (a : Act) (w : World), ops.toList = pre ++ rest → (seqL P T N ops rest st).run = some st' → Conc N w0 S m r0 r st a w →
      wpOps P ops Q (List.range' pre.length rest.length) a w
  | [], pre, st, r, a, w, _, h, hc => by
    simp only [seqL, Tree.run, Option.some.injEq] at h; subst h
    exact hQ r a w hc
  | o :: l, pre, st, r, a, w, ho, h, hc => by
    simp only [seqL] at h
    obtain ⟨st1, h1, h2⟩ := Tree.run_bind_some h
    have hi : ops[pre.length]? = some o := by
      rw [← Array.getElem?_toList, ho]; simp
    simp only [List.length_cons, List.range'_succ, wpOps_cons]
    obtain ⟨env', he, hl, hcase⟩ := guardT_spec h1 hc.env hc.elt
    have next : ∀ r' a' w', Conc N w0 S m r0 r' st1 a' w' → wpOps P ops Q (List.range' (pre.length + 1) l.length) a' w' := fun r' a' w' hc' => by
      have := seqL_wp hT hQ l (pre ++ [o]) st1 r' a' w' (by rw [ho]; simp) h2 hc'
      simpa using this
    rcases hcase with ⟨hw, hx⟩ | ⟨hw, hx⟩
    · exact exec1_wp hT hi hx hc he hl hw next
    · exact skip1_wp hi hx hc he hl hw next

end

end Go.Sy
