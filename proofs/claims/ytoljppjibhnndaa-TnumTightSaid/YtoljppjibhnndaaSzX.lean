/-
  A symbolic machine for one call, with rows of any length: states, regions; a region that draws its order is evaluated once.
-/
import Derived.Test.YtoljppjibhnndaaSzW
import Derived.Orders
namespace Go.Sz
open Go Go.RowKit Go.Sy
set_option linter.unusedVariables false
set_option linter.unusedSimpArgs false
set_option linter.constructorNameAsVariable false

abbrev Env := List (Nat × AV)
abbrev Hp := List (Nat × Ob)
def look : Env → Ef
  | [], _ => none
  | (k, av) :: l, j => bif Nat.beq k j then some av else look l j
def getH : Hp → Hf
  | [], _ => none
  | (k, ob) :: l, j => bif Nat.beq k j then some ob else getH l j

theorem bif_beq {α : Type} (i j : Nat) (x y : α) : (bif Nat.beq i j then x else y) = if i = j then x else y := by
  by_cases h : i = j
  · subst h; simp
  · have : Nat.beq i j = false := by
      cases hb : Nat.beq i j with
      | false => rfl
      | true => exact absurd (Nat.eq_of_beq_eq_true hb) h
    rw [this, if_neg h]; rfl

theorem updH_getH : ∀ (ups hp : Hp), updH ups (getH hp) = getH (ups ++ hp)
  | [], _ => rfl
  | (k, ob) :: l, hp => by funext j; simp only [updH, List.cons_append, getH, updH_getH l hp]

structure St where
  env : Env
  hp : Hp
  nx : Nat

structure Conc (N : Nat) (w0 : World) (S : Nat → Nat → Prop) (R0 : Frag) (m : Nat) (r0 : Loc) (st : St) (F : Frag) (r : Loc) (a : Act) (w : World) : Prop where
  defers : a.defers = []
  size : a.tmps.size = N
  env : EnvR F r (look st.env) a
  inn : EnvIn (fun j => j < st.nx) (look st.env)
  mem : Mem w0 S R0 (fun j => j < st.nx) (getH st.hp) F r w
  par : ∀ j, j < m → r j = r0 j
  mle : m ≤ st.nx

def putE (dst : Option Tmp) (res : Option AV) (env : Env) : Env := match dst, res with
  | some d, some av => (d, av) :: env
  | _, _ => env

def dstOk (N : Nat) (dst : Option Tmp) : Bool := match dst with
  | some d => Nat.blt d N
  | none => true
def effOk (dst : Option Tmp) (eff : Eff) : Bool := match dst, eff.res with
  | some _, none => false
  | _, _ => true

theorem look_cons (d : Nat) (av : AV) (env : Env) (k : Nat) : look ((d, av) :: env) k = if d = k then some av else look env k := by
  simp only [look, bif_beq]

theorem put_size (a : Act) (d : Option Tmp) (v : Value) : (a.put d v).tmps.size = a.tmps.size := by cases d <;> simp [Act.put]
theorem put_defers (a : Act) (d : Option Tmp) (v : Value) : (a.put d v).defers = a.defers := by cases d <;> rfl

def isD (dst : Option Tmp) (k : Nat) : Bool := match dst with
  | some d => Nat.beq d k
  | none => false

/-- The temporaries behind an operation. -/
theorem EnvR.put {F : Frag} {r : Loc} {E E' : Ef} {a : Act} {N : Nat} (h : EnvR F r E a) (hN : a.tmps.size = N) {dst : Option Tmp} (hd : dstOk N dst = true) {eff : Eff} (he : effOk dst eff = true) {v : Value}
    (hv : ∀ av, eff.res = some av → av.rep F r v) (hE : ∀ k, E' k = bif isD dst k then eff.res else E k) : EnvR F r E' (a.put dst v) := by
  intro k x hx
  rw [hE] at hx
  cases dst with
  | none => exact h k x hx
  | some d =>
    simp only [isD, bif_beq] at hx
    have hlt : d < N := Nat.le_of_ble_eq_true hd
    simp only [Act.put]
    by_cases hdk : d = k
    · subst hdk
      rw [if_pos rfl] at hx
      exact ⟨v, by rw [Array.getElem?_setIfInBounds_self_of_lt (by rw [hN]; exact hlt)], hv x hx⟩
    · rw [if_neg hdk] at hx
      rw [Array.getElem?_setIfInBounds_ne hdk]
      exact h k x hx

theorem EnvR.to {F F' : Frag} {r r' : Loc} {D : Nat → Prop} {E : Ef} {a : Act} (h : EnvR F r E a) (hi : EnvIn D E) (hF : F.le F') (hr : Loc.agree D r r') : EnvR F' r' E a := fun k av hk => by
  obtain ⟨v, h1, h2⟩ := h k av hk
  exact ⟨v, h1, AV.rep_to hF hr (hi k av hk) h2⟩

theorem isD_look (dst : Option Tmp) (eff : Eff) (env : Env) (he : effOk dst eff = true) (k : Nat) : look (putE dst eff.res env) k = bif isD dst k then eff.res else look env k := by
  cases dst with
  | none => cases hr : eff.res <;> rfl
  | some d =>
    cases hr : eff.res with
    | none => simp [effOk, hr] at he
    | some av => simp only [putE, look, isD]

def skipEff : Eff := ⟨some (.t []), [], 0⟩

theorem undef_rep (F : Frag) (r : Loc) : (AV.t []).rep F r undef := ⟨[], trivial, rfl⟩

/-! ### Guards -/
def GuardIs (ops : Array Oper) (o : Oper) (E : Ef) (b : Bool) : Prop := match o.guard with
  | none => b = true
  | some (g, want) => ∃ t, (ops[g]?).bind (·.dst) = some t ∧ ((∃ c, E t = some (AV.b c) ∧ b = (c == want)) ∨ (∃ l, E t = some (.t l) ∧ b = false))

theorem GuardIs.wanted {ops : Array Oper} {o : Oper} {E : Ef} {b : Bool} (h : GuardIs ops o E b) {F : Frag} {r : Loc} {a : Act} (he : EnvR F r E a) : Region.wanted o (yielded ops a.tmps) = b := by
  unfold GuardIs at h
  unfold Region.wanted
  split at h
  · rename_i hg
    rw [hg, h]
  · rename_i g want hg
    rw [hg]
    obtain ⟨t, ht, ⟨c, hc, rfl⟩ | ⟨l, hc, rfl⟩⟩ := h
    · obtain ⟨v, h1, h2⟩ := he t _ hc
      simp only [AV.rep, Part.rep, Cell.rep] at h2
      subst h2
      have hy : yielded ops a.tmps g = some c := by unfold yielded; rw [ht]; simp [h1]
      simp [hy]
    · obtain ⟨v, h1, vs, _, h2⟩ := he t _ hc
      subst h2
      have hy : yielded ops a.tmps g = none := by unfold yielded; rw [ht]; simp [h1]
      simp [hy]

def guardT {α : Type} (ops : Array Oper) (o : Oper) (E : Ef) (yes no : Option (Nat × Bool) → Tree α) : Tree α := match o.guard with
  | none => yes none
  | some (g, want) => match (ops[g]?).bind (·.dst) with
    | none => .fail
    | some t => match E t with
      | some (.p (.one (.v (.bool c)))) => .ite (bif want then c else !c) (yes (some (t, want))) (no (some (t, !want)))
      | some (.t _) => no none
      | _ => .fail

theorem guardT_spec {α : Type} {ops : Array Oper} {o : Oper} {E : Ef} {yes no : Option (Nat × Bool) → Tree α} {x : α} (h : (guardT ops o E yes no).run = some x) :
    ∃ b m, GuardIs ops o E b ∧ (∀ t c, m = some (t, c) → E t = some (AV.b c)) ∧ ((b = true ∧ (yes m).run = some x) ∨ (b = false ∧ (no m).run = some x)) := by
  unfold guardT at h
  unfold GuardIs
  split at h
  · exact ⟨true, none, rfl, (fun _ _ e => by cases e), .inl ⟨rfl, h⟩⟩
  · rename_i g want hg
    split at h
    · cases h
    · rename_i t ht
      split at h
      · rename_i c hc
        simp only [Tree.run] at h
        cases want <;> cases c <;> simp only [cond_true, cond_false, Bool.not_true, Bool.not_false] at h
        · exact ⟨true, _, ⟨t, ht, .inl ⟨_, hc, rfl⟩⟩, fun _ _ e => by injection e with e; injection e with e1 e2; subst e1 e2; exact hc, .inl ⟨rfl, h⟩⟩
        · exact ⟨false, _, ⟨t, ht, .inl ⟨_, hc, rfl⟩⟩, fun _ _ e => by injection e with e; injection e with e1 e2; subst e1 e2; exact hc, .inr ⟨rfl, h⟩⟩
        · exact ⟨false, _, ⟨t, ht, .inl ⟨_, hc, rfl⟩⟩, fun _ _ e => by injection e with e; injection e with e1 e2; subst e1 e2; exact hc, .inr ⟨rfl, h⟩⟩
        · exact ⟨true, _, ⟨t, ht, .inl ⟨_, hc, rfl⟩⟩, fun _ _ e => by injection e with e; injection e with e1 e2; subst e1 e2; exact hc, .inl ⟨rfl, h⟩⟩
      · rename_i l hc
        exact ⟨false, none, ⟨t, ht, .inr ⟨_, hc, rfl⟩⟩, (fun _ _ e => by cases e), .inr ⟨rfl, h⟩⟩
      · cases h

def noteE (m : Option (Nat × Bool)) (env : Env) : Env := match m with
  | some (t, c) => (t, AV.b c) :: env
  | none => env

theorem noteE_look {m : Option (Nat × Bool)} {env : Env} (h : ∀ t c, m = some (t, c) → look env t = some (AV.b c)) : look (noteE m env) = look env := by
  cases m with
  | none => rfl
  | some x =>
    obtain ⟨t, c⟩ := x
    funext k
    simp only [noteE, look_cons]
    split
    · rename_i e; subst e; exact (h t c rfl).symm
    · rfl

/-! ### Plain regions -/
def doEff (N : Nat) (o : Oper) (st : St) (env : Env) (eff : Eff) : Tree St :=
  bif dstOk N o.dst && effOk o.dst eff then .ret ⟨putE o.dst eff.res env, eff.ups ++ st.hp, st.nx + eff.nn⟩ else .fail

def seqT (P : Program) (T : FuncId → Option Summ) (N : Nat) (ops : Array Oper) : List Oper → St → Tree St
  | [], st => .ret st
  | o :: l, st => (guardT ops o (look st.env)
      (fun m => (opT P T (getH st.hp) (look (noteE m st.env)) st.nx o).bind fun eff => doEff N o st (noteE m st.env) eff)
      (fun m => doEff N o st (noteE m st.env) skipEff)).bind (seqT P T N ops l)

section
variable {P : Program} {T : FuncId → Option Summ} {N : Nat} {w0 : World} {S : Nat → Nat → Prop} {R0 : Frag} {m : Nat} {r0 : Loc}

theorem Conc.step {st : St} {F F' : Frag} {r r' : Loc} {a : Act} {w w' : World} {v : Value} (h : Conc N w0 S R0 m r0 st F r a w) {env : Env} (henv : look env = look st.env) {o : Oper} {eff : Eff} {st' : St} (hd : (doEff N o st env eff).run = some st')
    (ha : After w0 S R0 (fun j => j < st.nx) (getH st.hp) F r st.nx eff F' r' w' v) : Conc N w0 S R0 m r0 st' F' r' (a.put o.dst v) w' := by
  unfold doEff at hd
  cases hb : (dstOk N o.dst && effOk o.dst eff) with
  | false => rw [hb] at hd; cases hd
  | true =>
    rw [hb] at hd
    simp only [cond_true, Tree.run, Option.some.injEq] at hd; subst hd
    simp only [Bool.and_eq_true] at hb
    have hD : ∀ j, More (fun j => j < st.nx) st.nx eff.nn j → j < st.nx + eff.nn := fun j hj => by
      rcases hj with hj | hj <;> omega
    have hlook : ∀ k, look (putE o.dst eff.res env) k = bif isD o.dst k then eff.res else look st.env k := fun k => by
      rw [isD_look o.dst eff env hb.2 k, henv]
    refine ⟨by rw [put_defers]; exact h.defers, by rw [put_size]; exact h.size, ?_, ?_, ?_, fun j hj => by rw [ha.agree j (Nat.lt_of_lt_of_le hj h.mle)]; exact h.par j hj, Nat.le_trans h.mle (Nat.le_add_right _ _)⟩
    · exact (h.env.to h.inn ha.le ha.agree).put h.size hb.1 hb.2 (fun av hav => (ha.res av hav).1) hlook
    · intro k av hk
      rw [hlook] at hk
      cases hi : isD o.dst k with
      | true => rw [hi] at hk; exact AV.inn_mono hD (ha.res av hk).2
      | false => rw [hi] at hk; exact AV.inn_mono (fun j hj => Nat.lt_of_lt_of_le hj (Nat.le_add_right _ _)) (h.inn k av hk)
    · have := ha.mem.monoD hD
      rw [updH_getH] at this
      exact this

theorem Conc.skip {st : St} {F : Frag} {r : Loc} {a : Act} {w : World} (h : Conc N w0 S R0 m r0 st F r a w) {env : Env} (henv : look env = look st.env) {o : Oper} {st' : St} (hd : (doEff N o st env skipEff).run = some st') :
    Conc N w0 S R0 m r0 st' F r (a.put o.dst undef) w := by
  refine h.step henv hd ⟨fun _ _ => rfl, Frag.le_refl F, h.mem.monoD (fun j hj => .inl hj), fun av hav => ?_⟩
  injection hav with hav; subst hav
  exact ⟨undef_rep F r, fun x hx => by cases hx⟩

theorem seqT_wp {K : Know} (hT : TOk K P T) (hk : K.ok R0) {ops : Array Oper} {Q : Exit → Act → World → Prop} {st' : St} (hQ : ∀ F' r' a' w', Conc N w0 S R0 m r0 st' F' r' a' w' → Q .normal a' w') :
    ∀ (rest pre : List Oper) (st : St) (F : Frag) (r : Loc) (a : Act) (w : World), ops.toList = pre ++ rest → (seqT P T N ops rest st).run = some st' → Conc N w0 S R0 m r0 st F r a w →
      wpOps P ops Q (List.range' pre.length rest.length) a w
  | [], pre, st, F, r, a, w, _, h, hc => by
    simp only [seqT, Tree.run, Option.some.injEq] at h; subst h
    simpa [wpOps] using hQ F r a w hc
  | o :: l, pre, st, F, r, a, w, ho, h, hc => by
    simp only [seqT] at h
    obtain ⟨st1, h1, h2⟩ := Tree.run_bind_some h
    have hget : ops[pre.length]? = some o := by
      rw [← Array.getElem?_toList, ho]; simp
    have next : ∀ F' r' a' w', Conc N w0 S R0 m r0 st1 F' r' a' w' → wpOps P ops Q (List.range' (pre.length + 1) l.length) a' w' := fun F' r' a' w' hc' => by
      have := seqT_wp hT hk hQ l (pre ++ [o]) st1 F' r' a' w' (by rw [ho]; simp) h2 hc'
      simpa using this
    rw [List.length_cons, List.range'_succ, wpOps_cons]
    unfold wpOp
    rw [hget]
    simp only []
    obtain ⟨b, m, hg, hm, hcase⟩ := guardT_spec h1
    rw [hg.wanted hc.env]
    have hn := noteE_look hm
    rcases hcase with ⟨rfl, hy⟩ | ⟨rfl, hy⟩
    · rw [if_pos rfl]
      obtain ⟨eff, he, hd⟩ := Tree.run_bind_some hy
      rw [hn] at he
      refine .inl (op_wp hT hk (fun j ob h => h) hc.mem (fun j h1 _ h2 => Nat.lt_irrefl _ (Nat.lt_of_lt_of_le h2 h1)) he hc.env hc.inn fun v w' F' r' ha => next F' r' _ w' (hc.step hn hd ha))
    · rw [if_neg (by simp)]
      exact next F r _ w (hc.skip hn hy)
end
end Go.Sz
