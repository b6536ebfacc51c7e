/-
  Code that may go more ways than one (the order of a map's keys): what every way leads to.
-/
import Derived.Test.YtebimchjglckoaaSzAJ
namespace Go.Sz
open Go Go.RowKit Go.Sy
set_option linter.unusedVariables false
set_option linter.unusedSimpArgs false
set_option linter.constructorNameAsVariable false

section
variable {P : Program} {T : FuncId → Option Summ} {N : Nat} {w0 : World} {S : Nat → Nat → Prop} {R0 : Frag} {m : Nat} {r0 : Loc}

/-- From a state some code leads to one of the ends of which Q tells. -/
def Leads (P : Program) (N : Nat) (w0 : World) (S : Nat → Nat → Prop) (R0 : Frag) (m : Nat) (r0 : Loc) (c : Code) (st : St) (Q : Ex → St → Prop) : Prop :=
  ∀ (F : Frag) (r : Loc) (a : Act) (w : World), Conc N w0 S R0 m r0 st F r a w → c.wp P (fun e a w => ∃ ex st', Q ex st' ∧ PostC N w0 S R0 m r0 ex st' e a w) a w

theorem Leads.mono {c : Code} {st : St} {Q Q' : Ex → St → Prop} (h : Leads P N w0 S R0 m r0 c st Q) (hq : ∀ ex st', Q ex st' → Q' ex st') : Leads P N w0 S R0 m r0 c st Q' :=
  fun F r a w hc => wp_mono (h F r a w hc) fun e a w ⟨ex, st', h1, h2⟩ => ⟨ex, st', hq _ _ h1, h2⟩
theorem leads_code {K : Know} (hT : TOk K P T) (hk : K.ok R0) (hm : P.follows .mixedOrders = true) {fuel : Nat} {L : LT} {c0 : Code} (hL : LOk P T N m fuel L c0) {c : Code} {p : List Nat} (hp : subAt c0 p = some c) {b : Bool} {st st' : St} {ex : Ex}
    (h : (evalCode P T N m fuel L c b p st).run = some (ex, st')) : Leads P N w0 S R0 m r0 c st (fun e s => e = ex ∧ s = st') :=
  fun F r a w hc => wp_mono (code_wp hT hk hm hL c p hp b st st' ex F r a w h hc) fun e a w h => ⟨ex, st', ⟨rfl, rfl⟩, h⟩
theorem leads_seq {x y : Code} {st : St} {Q1 Q : Ex → St → Prop} (h1 : Leads P N w0 S R0 m r0 x st Q1) (h2 : ∀ st', Q1 .normal st' → Leads P N w0 S R0 m r0 y st' Q) (h3 : ∀ ex st', Q1 ex st' → ex ≠ .normal → Q ex st') :
    Leads P N w0 S R0 m r0 (.seq x y) st Q := fun F r a w hc => by
  refine wp_seq (wp_mono (h1 F r a w hc) ?_)
  rintro e a1 w1 ⟨ex, st', hq, rfl, F1, r1, hc1⟩
  cases ex with
  | normal => exact h2 st' hq F1 r1 a1 w1 hc1
  | exit id => exact ⟨_, st', h3 _ _ hq (by intro h; cases h), rfl, F1, r1, hc1⟩
  | ret => exact ⟨_, st', h3 _ _ hq (by intro h; cases h), rfl, F1, r1, hc1⟩
theorem leads_canon {c : Code} {st st0 st1 : St} {coes : List (Nat × Tys)} {ks : List Nat} {Q : Ex → St → Prop} (h0 : (hsT coes st).run = some st0) (h1 : canon m coes ks st0 = some st1) (h : Leads P N w0 S R0 m r0 c st1 Q) :
    Leads P N w0 S R0 m r0 c st Q := fun F r a w hc => by
  obtain ⟨r2, hc2⟩ := hsT_conc P hc h0
  obtain ⟨r1, hc1⟩ := hc2.canon h1
  exact h F r1 a w hc1
/-- A block that is left by its own number, or runs out. -/
theorem leads_block {id : Nat} {x : Code} {st : St} {Q1 Q : Ex → St → Prop} (h1 : Leads P N w0 S R0 m r0 x st Q1) (hn : ∀ st', Q1 .normal st' → Q .normal st') (he : ∀ st', Q1 (.exit id) st' → Q .normal st')
    (ho : ∀ id' st', Q1 (.exit id') st' → id' ≠ id → Q (.exit id') st') (hr : ∀ st', Q1 .ret st' → Q .ret st') : Leads P N w0 S R0 m r0 (.block id x) st Q := fun F r a w hc => by
  refine wp_block (wp_mono (h1 F r a w hc) ?_)
  rintro e a1 w1 ⟨ex, st', hq, rfl, F1, r1, hc1⟩
  cases ex with
  | normal => exact ⟨_, st', hn _ hq, rfl, F1, r1, hc1⟩
  | ret => exact ⟨_, st', hr _ hq, rfl, F1, r1, hc1⟩
  | exit id' =>
    simp only [Ex.exit', Exit.inBlock]
    by_cases hid : id' = id
    · subst hid
      rw [if_pos rfl]
      exact ⟨.normal, st', he _ hq, rfl, F1, r1, hc1⟩
    · rw [if_neg hid]
      exact ⟨.exit id', st', ho _ _ hq hid, rfl, F1, r1, hc1⟩
end
/-- A call, by what its code leads to. -/
theorem calls_of_leads {P : Program} {f : FuncId} {fn : Func} {c : Code} (hf : P.funcs[f]? = some fn) (hb : fn.body = some c) {rc : List (Nat × Tys)} {args : List AV} {H H' : List Ob} {v : AV} {Q : Ex → St → Prop} (hle : args.length ≤ fn.ntmps)
    {F : Frag} {r : Loc} {w : World} {us : List Value} (hl : Leads P fn.ntmps w (OwnL (nthH H) r) F H.length r c ⟨argEnv args 0, numOb H 0, H.length⟩ Q)
    (hQ : ∀ ex st, Q ex st → (∀ id, ex ≠ .exit id) ∧ ((resultsT P (getH st.hp) (look st.env) fn.results.toList).bind fun ps => outT H.length rc ps st).run = some (v, H'))
    (hpre : Pre F r H w) (ha : avsRep F r args us) (hi : ∀ a ∈ args, a.inn fun j => j < H.length) : Calls P f us.toArray w (Post F r H w v H') := by
  have hal := avsRep_length ha
  refine calls_of_wp hf hb ?_
  let a0 : Act := { tmps := us.toArray ++ Array.replicate (fn.ntmps - us.toArray.size) undef, defers := [] }
  have hget : ∀ (as : List AV) (vs : List Value) (i : Nat) (av : AV), avsRep F r as vs → as[i]? = some av → ∃ v, vs[i]? = some v ∧ av.rep F r v := by
    intro as
    induction as with
    | nil => intro vs i av _ hi; simp at hi
    | cons x l ih =>
      intro vs i av hr hi
      cases vs with
      | nil => exact hr.elim
      | cons u vs =>
        cases i with
        | zero => simp at hi; subst hi; exact ⟨u, rfl, hr.1⟩
        | succ i => simpa using ih vs i av hr.2 (by simpa using hi)
  have hc : Conc fn.ntmps w (OwnL (nthH H) r) F H.length r ⟨argEnv args 0, numOb H 0, H.length⟩ F r a0 w := by
    refine ⟨rfl, by simp [a0]; omega, fun k av hk => ?_, fun k av hk => ?_, ?_, fun _ _ => rfl, Nat.le_refl _⟩
    · obtain ⟨_, h3⟩ := argEnv_look hk
      simp only [Nat.sub_zero] at h3
      obtain ⟨u, g1, g2⟩ := hget args us k av ha h3
      have hk' : k < us.length := (List.getElem?_eq_some_iff.1 g1).1
      refine ⟨u, ?_, g2⟩
      simp only [a0]
      rw [Array.getElem?_append_left (by simpa using hk')]
      simpa using g1
    · obtain ⟨_, h3⟩ := argEnv_look hk
      exact hi av (List.mem_of_getElem? h3)
    · rw [numOb_nth]; exact hpre
  refine wp_mono (hl F r a0 w hc) ?_
  rintro e a1 w1 ⟨ex, st, hq, rfl, F1, r1, hc1⟩
  obtain ⟨hne, hr⟩ := hQ ex st hq
  have main : a1.defers = [] ∧ ∃ u, (results fn a1.tmps).run P w1 = .ok u w1 ∧ Post F r H w v H' (.returned u) w1 := by
    obtain ⟨ps, h3, h4⟩ := Tree.run_bind_some hr
    obtain ⟨vs, g1, g2, g3, g4⟩ := resultsT_spec (P := P) hc1.env hc1.inn hc1.mem.sees _ _ h3
    obtain ⟨r', k1, k2, k3, k4, k5⟩ := outT_spec P hc1 g1 g2 h4
    refine ⟨hc1.defers, _, ?_, _, F1, r', rfl, k1, k2, k3, k4, k5⟩
    have hmm := mapM_run (P := P) (w := w1) _ fn.results.toList vs g4 g3
    rw [results_eq, Array.mapM_eq_mapM_toList, Sem.run_bind, Sem.run_map, hmm]
    simp only [Result.andThen_ok, Sem.run_pure]
  cases ex with
  | exit id => exact absurd rfl (hne id)
  | normal => exact main
  | ret => exact main
end Go.Sz
