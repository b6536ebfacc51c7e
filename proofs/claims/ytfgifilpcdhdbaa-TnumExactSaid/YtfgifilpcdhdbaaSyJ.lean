/-
  A symbolic machine for one call: code, and a call's contract out of its code.
-/
import Derived.Test.YtfgifilpcdhdbaaSyI
namespace Go.Sy
open Go Go.RowKit

inductive Ex where
  | normal
  | exit (id : Nat)
  | ret

def Ex.exit' : Ex → Exit
  | .normal => .normal
  | .exit id => .exit id
  | .ret => .ret

/-! ### What is kept at a loop's head -/
def memN (k : Nat) : List Nat → Bool
  | [] => false
  | x :: l => bif Nat.beq x k then true else memN k l

def restrictE (env : Env) : List Nat → Env
  | [] => []
  | k :: ks => match look env k with
    | some av => (k, av) :: restrictE env ks
    | none => restrictE env ks

theorem restrictE_look {env : Env} : ∀ {ks : List Nat} {k : Nat} {av : AV}, look (restrictE env ks) k = some av → look env k = some av
  | [], _, _, h => by cases h
  | x :: ks, k, av, h => by
    simp only [restrictE] at h
    split at h
    · rename_i v hv
      rw [look_cons] at h
      split at h
      · rename_i e; subst e; rw [hv, h]
      · exact restrictE_look h
    · exact restrictE_look h

def keysE : Env → List Nat → List Nat
  | [], acc => acc.reverse
  | (k, _) :: r, acc => bif memN k acc then keysE r acc else keysE r (k :: acc)

def tempsOps : List Oper → List Nat
  | [] => []
  | o :: l => match o.op, o.dst with
    | .assign _, _ => tempsOps l
    | _, some d => d :: tempsOps l
    | _, none => tempsOps l

def tempsOf : Code → List Nat
  | .region _ ops _ => tempsOps ops.toList
  | .seq a b => tempsOf a ++ tempsOf b
  | .cond _ a b => tempsOf a ++ tempsOf b
  | .block _ a => tempsOf a
  | .loop a => tempsOf a
  | .scope a => tempsOf a
  | _ => []

def minusN (l : List Nat) : List Nat → List Nat
  | [] => []
  | k :: ks => bif memN k l then minusN l ks else k :: minusN l ks

def capLtB (n : Nat) : Option (Nat × Nat) × Value → Bool
  | (some (j, _), _) => Nat.blt j n
  | _ => true
def Cell.ltB (n : Nat) : Cell → Bool
  | .v _ => true
  | .p j _ => Nat.blt j n
  | .clo _ caps => caps.all (capLtB n)
  | .w _ _ => true
def cellsLtB (n : Nat) : List Cell → Bool
  | [] => true
  | c :: l => c.ltB n && cellsLtB n l
def Part.ltB (n : Nat) : Part → Bool
  | .one c => c.ltB n
  | .many l => cellsLtB n l
def partsLtB (n : Nat) : List Part → Bool
  | [] => true
  | c :: l => c.ltB n && partsLtB n l
def AV.ltB (n : Nat) : AV → Bool
  | .p x => x.ltB n
  | .t l => partsLtB n l
def envLtB (n : Nat) : Env → Bool
  | [] => true
  | (_, av) :: r => av.ltB n && envLtB n r
def hpLtB (n : Nat) : Hp → Bool
  | [] => true
  | l :: r => cellsLtB n l && hpLtB n r

theorem Cell.ltB_lt {n : Nat} {c : Cell} (h : c.ltB n = true) : c.lt n := by
  cases c with
  | v x => trivial
  | p j o => exact Nat.le_of_ble_eq_true h
  | clo f caps =>
    intro x hx
    have := List.all_eq_true.1 h x hx
    obtain ⟨o, v⟩ := x
    cases o with
    | none => trivial
    | some jo => exact Nat.le_of_ble_eq_true this
  | w k x => trivial
theorem cellsLtB_lt {n : Nat} : ∀ {l : List Cell}, cellsLtB n l = true → ∀ c ∈ l, c.lt n
  | [], _, c, hc => by cases hc
  | x :: l, h, c, hc => by
    simp only [cellsLtB, Bool.and_eq_true] at h
    rcases List.mem_cons.1 hc with rfl | hc
    · exact Cell.ltB_lt h.1
    · exact cellsLtB_lt h.2 c hc
theorem Part.ltB_lt {n : Nat} {c : Part} (h : c.ltB n = true) : c.lt n := by
  cases c with
  | one c => exact Cell.ltB_lt h
  | many l => exact cellsLtB_lt h
theorem partsLtB_lt {n : Nat} : ∀ {l : List Part}, partsLtB n l = true → ∀ c ∈ l, c.lt n
  | [], _, c, hc => by cases hc
  | x :: l, h, c, hc => by
    simp only [partsLtB, Bool.and_eq_true] at h
    rcases List.mem_cons.1 hc with rfl | hc
    · exact Part.ltB_lt h.1
    · exact partsLtB_lt h.2 c hc
theorem AV.ltB_lt {n : Nat} {c : AV} (h : c.ltB n = true) : c.lt n := by
  cases c with
  | p x => exact Part.ltB_lt h
  | t l => exact partsLtB_lt h
theorem envLtB_lt {n : Nat} : ∀ {env : Env}, envLtB n env = true → ∀ k av, look env k = some av → av.lt n
  | [], _, k, av, h => by cases h
  | (x, v) :: r, h, k, av, hk => by
    simp only [envLtB, Bool.and_eq_true] at h
    rw [look_cons] at hk
    split at hk
    · injection hk with hk; subst hk; exact AV.ltB_lt h.1
    · exact envLtB_lt h.2 k av hk
theorem hpLtB_lt {n : Nat} : ∀ {hp : Hp}, hpLtB n hp = true → ∀ l ∈ hp, ∀ c ∈ l, c.lt n
  | [], _, l, hl => by cases hl
  | x :: r, h, l, hl => by
    simp only [hpLtB, Bool.and_eq_true] at h
    rcases List.mem_cons.1 hl with rfl | hl
    · exact cellsLtB_lt h.1
    · exact hpLtB_lt h.2 l hl

def cleanS (ks : List Nat) (n0 : Nat) (st : St) : St :=
  bif Nat.ble n0 st.hp.length && (envLtB n0 (restrictE st.env ks) && hpLtB n0 (st.hp.take n0)) then ⟨restrictE st.env ks, st.hp.take n0⟩ else ⟨restrictE st.env ks, st.hp⟩

theorem Mem.take {w0 : World} {S : Nat → Nat → Prop} {m : Nat} {r0 r : Loc} {hp : Hp} {w : World} (h : Mem w0 S m r0 r hp w) {n : Nat} (hn : n ≤ hp.length) (hm : m ≤ n)
    (hl : ∀ l ∈ hp.take n, ∀ c ∈ l, c.lt n) : Mem w0 S m r0 r (hp.take n) w := by
  have hget : ∀ (j : Nat) (l : List Cell), (hp.take n)[j]? = some l → hp[j]? = some l := fun j l hj => by
    rw [List.getElem?_take] at hj
    split at hj
    · exact hj
    · cases hj
  have hlen : (hp.take n).length = n := by simp; omega
  refine ⟨fun j l hj => h.heap j l (hget j l hj), fun j j' l l' i i' hj hj' => h.disj j j' l l' i i' (hget j l hj) (hget j' l' hj'), ?_, h.frame, ?_, h.par, by omega⟩
  · rw [hlen]; exact hl
  · rintro b o ⟨j, l, i, hj, hi, e1, e2⟩
    exact h.fresh b o ⟨j, l, i, hget j l hj, hi, e1, e2⟩

section
variable {P : Program} {T : FuncId → Option Summ} {N : Nat} {w0 : World} {S : Nat → Nat → Prop} {m : Nat} {r0 : Loc}

theorem Conc.clean {r : Loc} {st : St} {a : Act} {w : World} (h : Conc N w0 S m r0 r st a w) (ks : List Nat) {n0 : Nat} (hm : m ≤ n0) : Conc N w0 S m r0 r (cleanS ks n0 st) a w := by
  have he : EnvOk r (restrictE st.env ks) a := fun k av hk => h.env k av (restrictE_look hk)
  unfold cleanS
  cases hb : (Nat.ble n0 st.hp.length && (envLtB n0 (restrictE st.env ks) && hpLtB n0 (st.hp.take n0))) with
  | false => exact ⟨h.defers, h.size, he, fun k av hk => h.elt k av (restrictE_look hk), h.mem⟩
  | true =>
    simp only [Bool.and_eq_true] at hb
    have hle : n0 ≤ st.hp.length := Nat.le_of_ble_eq_true hb.1
    have hlen : (st.hp.take n0).length = n0 := by simp; omega
    exact ⟨h.defers, h.size, he, by simp only [cond_true]; rw [hlen]; exact envLtB_lt hb.2.1, h.mem.take hle hm (hpLtB_lt hb.2.2)⟩

/-! ### Code -/
def loopN (f : St → Tree (Ex × St)) (ks : List Nat) (n0 : Nat) : Nat → St → Tree (Ex × St)
  | 0, _ => .fail
  | n + 1, st => (f (cleanS ks n0 st)).bind fun x => match x.1 with
    | .normal => loopN f ks n0 n x.2
    | .exit id => .ret (.exit id, x.2)
    | .ret => .ret (.ret, x.2)

def evalCode (P : Program) (T : FuncId → Option Summ) (N fuel : Nat) : Code → St → Tree (Ex × St)
  | .skip => fun st => .ret (.normal, st)
  | .label _ => fun st => .ret (.normal, st)
  | .region _ ops draw => fun st => (bif draw then (bif Region.noSelect ops then drawOps P T N ops ops.size (Array.replicate ops.size false) [] st else .fail)
      else seqL P T N ops ops.toList st).bind fun st' => .ret (.normal, st')
  | .seq x y => fun st => (evalCode P T N fuel x st).bind fun r => match r.1 with
    | .normal => evalCode P T N fuel y r.2
    | .exit id => .ret (.exit id, r.2)
    | .ret => .ret (.ret, r.2)
  | .cond c x y => fun st => match evalO st.env c with
    | some (.p (.one (.v (.bool b)))) => .ite b (evalCode P T N fuel x st) (evalCode P T N fuel y st)
    | _ => .fail
  | .block id x => fun st => (evalCode P T N fuel x st).bind fun r => match r.1 with
    | .normal => .ret (.normal, r.2)
    | .exit id' => bif Nat.beq id' id then .ret (.normal, r.2) else .ret (.exit id', r.2)
    | .ret => .ret (.ret, r.2)
  | .loop x => fun st => loopN (evalCode P T N fuel x) (minusN (tempsOf x) (keysE st.env [])) st.hp.length fuel st
  | .exit id => fun st => .ret (.exit id, st)
  | .ret => fun st => .ret (.ret, st)
  | .scope x => fun st => evalCode P T N fuel x st
  | .rangeFunc .. => fun _ => .fail
  | .goto _ => fun _ => .fail
  | .refuse _ => fun _ => .fail

/-- The post of code that the machine has gone through. -/
def PostC (N : Nat) (w0 : World) (S : Nat → Nat → Prop) (m : Nat) (r0 : Loc) (ex : Ex) (st : St) (e : Exit) (a : Act) (w : World) : Prop := e = ex.exit' ∧ ∃ r, Conc N w0 S m r0 r st a w

theorem PostC.panic {ex : Ex} {st : St} (c : List PanicEntry) (a : Act) (d : Option Tmp) (v : Value) (w : World) (h : PostC N w0 S m r0 ex st (.panic c) (a.put d v) w) : PostC N w0 S m r0 ex st (.panic c) a w := by
  have := h.1
  cases ex <;> cases this

theorem code_wp (hT : TOk P T) (hm : P.follows .mixedOrders = true) {fuel : Nat} : ∀ (c : Code) (st st' : St) (ex : Ex) (r : Loc) (a : Act) (w : World), (evalCode P T N fuel c st).run = some (ex, st') →
    Conc N w0 S m r0 r st a w → c.wp P (PostC N w0 S m r0 ex st') a w := by
  intro c
  induction c with
  | skip =>
    intro st st' ex r a w h hc
    simp only [evalCode, Tree.run, Option.some.injEq, Prod.mk.injEq] at h
    obtain ⟨rfl, rfl⟩ := h
    exact wp_skip ⟨rfl, r, hc⟩
  | label l =>
    intro st st' ex r a w h hc
    simp only [evalCode, Tree.run, Option.some.injEq, Prod.mk.injEq] at h
    obtain ⟨rfl, rfl⟩ := h
    exact wp_label ⟨rfl, r, hc⟩
  | region id ops draw =>
    intro st st' ex r a w h hc
    simp only [evalCode] at h
    obtain ⟨st1, h1, h2⟩ := Tree.run_bind_some h
    simp only [Tree.run, Option.some.injEq, Prod.mk.injEq] at h2
    obtain ⟨rfl, rfl⟩ := h2
    have hQ : ∀ r' a' w', Conc N w0 S m r0 r' st1 a' w' → PostC N w0 S m r0 .normal st1 .normal a' w' := fun r' a' w' h => ⟨rfl, r', h⟩
    cases draw with
    | true =>
      simp only [cond_true] at h1
      cases hs : Region.noSelect ops with
      | false => rw [hs] at h1; cases h1
      | true =>
        rw [hs] at h1
        refine wp_region_D hm (draw_wp hT hs hQ (fun c a d v w h => PostC.panic c a d v w h) _ _ [] [] st r a w.drew h1 ⟨hc.defers, hc.size, hc.env, hc.elt, hc.mem.drew⟩ trivial)
    | false =>
      simp only [cond_false] at h1
      have := seqL_wp hT (ops := ops) hQ ops.toList [] st r a w rfl h1 hc
      refine wp_region ?_
      rw [List.range_eq_range']
      simpa using this
  | seq x y ihx ihy =>
    intro st st' ex r a w h hc
    simp only [evalCode] at h
    obtain ⟨⟨ex1, st1⟩, h1, h2⟩ := Tree.run_bind_some h
    refine wp_seq (wp_mono (ihx st st1 ex1 r a w h1 hc) ?_)
    rintro e a1 w1 ⟨rfl, r1, hc1⟩
    cases ex1 with
    | normal => exact ihy st1 st' ex r1 a1 w1 h2 hc1
    | exit id =>
      simp only [Tree.run, Option.some.injEq, Prod.mk.injEq] at h2
      obtain ⟨rfl, rfl⟩ := h2
      exact ⟨rfl, r1, hc1⟩
    | ret =>
      simp only [Tree.run, Option.some.injEq, Prod.mk.injEq] at h2
      obtain ⟨rfl, rfl⟩ := h2
      exact ⟨rfl, r1, hc1⟩
  | cond c x y ihx ihy =>
    intro st st' ex r a w h hc
    simp only [evalCode] at h
    split at h
    · rename_i b hb
      have hv := evalO_den hc.env hb
      simp only [AV.den, Part.den, Cell.den] at hv
      simp only [Tree.run] at h
      cases b with
      | true => exact wp_cond_true hv (ihx st st' ex r a w h hc)
      | false => exact wp_cond_false hv (ihy st st' ex r a w h hc)
    · cases h
  | block id x ih =>
    intro st st' ex r a w h hc
    simp only [evalCode] at h
    obtain ⟨⟨ex1, st1⟩, h1, h2⟩ := Tree.run_bind_some h
    refine wp_block (wp_mono (ih st st1 ex1 r a w h1 hc) ?_)
    rintro e a1 w1 ⟨rfl, r1, hc1⟩
    cases ex1 with
    | normal =>
      simp only [Tree.run, Option.some.injEq, Prod.mk.injEq] at h2
      obtain ⟨rfl, rfl⟩ := h2
      exact ⟨rfl, r1, hc1⟩
    | ret =>
      simp only [Tree.run, Option.some.injEq, Prod.mk.injEq] at h2
      obtain ⟨rfl, rfl⟩ := h2
      exact ⟨rfl, r1, hc1⟩
    | exit id' =>
      simp only [Ex.exit', Exit.inBlock] at h2 ⊢
      by_cases hid : id' = id
      · subst hid
        simp only [Nat.beq_refl, cond_true, Tree.run, Option.some.injEq, Prod.mk.injEq] at h2
        obtain ⟨rfl, rfl⟩ := h2
        rw [if_pos rfl]
        exact ⟨rfl, r1, hc1⟩
      · have hb : Nat.beq id' id = false := by
          cases hb : Nat.beq id' id with
          | false => rfl
          | true => exact absurd (Nat.eq_of_beq_eq_true hb) hid
        simp only [hb, cond_false, Tree.run, Option.some.injEq, Prod.mk.injEq] at h2
        obtain ⟨rfl, rfl⟩ := h2
        rw [if_neg hid]
        exact ⟨rfl, r1, hc1⟩
  | loop x ih =>
    intro st st' ex r a w h hc
    simp only [evalCode] at h
    generalize hks : minusN (tempsOf x) (keysE st.env []) = ks at h
    have hmn : m ≤ st.hp.length := hc.mem.mle
    generalize st.hp.length = n0 at h hmn
    have key : ∀ (n : Nat) (st : St) (r : Loc) (a : Act) (w : World), (loopN (evalCode P T N fuel x) ks n0 n st).run = some (ex, st') → Conc N w0 S m r0 r st a w →
        Code.rounds P x (PostC N w0 S m r0 ex st') n a w := by
      intro n
      induction n with
      | zero => intro st r a w h _; cases h
      | succ n ihn =>
        intro st r a w h hc
        simp only [loopN] at h
        obtain ⟨⟨ex1, st1⟩, h1, h2⟩ := Tree.run_bind_some h
        rw [rounds_succ]
        refine wp_mono (ih _ st1 ex1 r a w h1 (hc.clean ks hmn)) ?_
        rintro e a1 w1 ⟨rfl, r1, hc1⟩
        cases ex1 with
        | normal => exact ihn st1 r1 a1 w1 h2 hc1
        | exit id =>
          simp only [Tree.run, Option.some.injEq, Prod.mk.injEq] at h2
          obtain ⟨rfl, rfl⟩ := h2
          exact ⟨rfl, r1, hc1⟩
        | ret =>
          simp only [Tree.run, Option.some.injEq, Prod.mk.injEq] at h2
          obtain ⟨rfl, rfl⟩ := h2
          exact ⟨rfl, r1, hc1⟩
    exact wp_loop_rounds fuel (key fuel st r a w h hc)
  | exit id =>
    intro st st' ex r a w h hc
    simp only [evalCode, Tree.run, Option.some.injEq, Prod.mk.injEq] at h
    obtain ⟨rfl, rfl⟩ := h
    exact wp_exit ⟨rfl, r, hc⟩
  | ret =>
    intro st st' ex r a w h hc
    simp only [evalCode, Tree.run, Option.some.injEq, Prod.mk.injEq] at h
    obtain ⟨rfl, rfl⟩ := h
    exact wp_ret ⟨rfl, r, hc⟩
  | scope x ih =>
    intro st st' ex r a w h hc
    simp only [evalCode] at h
    refine wp_scope_straight (wp_mono (ih st st' ex r a w h hc) ?_)
    rintro e a1 w1 ⟨rfl, r1, hc1⟩
    cases ex <;> exact ⟨rfl, r1, hc1⟩
  | rangeFunc f ps x y _ _ => intro st st' ex r a w h; cases h
  | goto l => intro st st' ex r a w h; cases h
  | refuse s => intro st st' ex r a w h; cases h

end

/-! ### Results -/
def resultsA (P : Program) (hp : Hp) (env : Env) : List ResultVar → Option (List Part)
  | [] => some []
  | .tmp t :: l => match look env t, resultsA P hp env l with
    | some (.p x), some r => some (x :: r)
    | _, _ => none
  | .cell a t :: l => match look env a with
    | some (.p (.one (.p j off))) => match loadA P hp t j off, resultsA P hp env l with
      | some x, some r => some (x :: r)
      | _, _ => none
    | _ => none

def mkRes : List Part → AV
  | [x] => .p x
  | l => .t l

theorem mapM_run {P : Program} {w : World} {α β : Type} (f : α → Sem β) : ∀ (l : List α) (vs : List β), (∀ (i : Nat) (a : α), l[i]? = some a → ∃ b, vs[i]? = some b ∧ (f a).run P w = .ok b w) → vs.length = l.length →
    (l.mapM f).run P w = .ok vs w
  | [], vs, _, hl => by
    have : vs = [] := List.length_eq_zero_iff.1 (by simpa using hl)
    subst this; rfl
  | a :: l, vs, h, hl => by
    cases vs with
    | nil => simp at hl
    | cons v vs =>
      obtain ⟨b, hb, hr⟩ := h 0 a rfl
      simp at hb; subst hb
      have ih := mapM_run f l vs (fun i a ha => h (i + 1) a (by simpa using ha)) (by simpa using hl)
      rw [List.mapM_cons, Sem.run_bind, hr]
      simp only [Result.andThen_ok, Sem.run_bind, ih, Sem.run_pure]

def resF (tmps : Array Value) : ResultVar → Sem Value
  | .tmp t => pure (tmps.getD t undef)
  | .cell p t => do loadVar t (← asAddr (tmps.getD p undef))

theorem results_eq (fn : Func) (tmps : Array Value) : results fn tmps = (fn.results.mapM (resF tmps) >>= fun vs => pure (if h : vs.size = 1 then vs[0] else .tuple vs)) := by
  unfold results
  congr 1

theorem resultsA_spec {P : Program} {r : Loc} {hp : Hp} {env : Env} {a : Act} {w : World} (he : EnvOk r env a) (hh : HeapIs r hp w) : ∀ (l : List ResultVar) (ps : List Part), resultsA P hp env l = some ps →
    (ps.map (Part.den r)).length = l.length ∧ ∀ (i : Nat) (x : ResultVar), l[i]? = some x → ∃ b, (ps.map (Part.den r))[i]? = some b ∧
      (resF a.tmps x).run P w = .ok b w
  | [], ps, h => by
    simp [resultsA] at h; subst h
    exact ⟨rfl, fun i x hx => by simp at hx⟩
  | .tmp t :: l, ps, h => by
    simp only [resultsA] at h
    split at h
    · rename_i x q hx hq
      injection h with h; subst h
      obtain ⟨h1, h2⟩ := resultsA_spec he hh l q hq
      refine ⟨by simpa using h1, fun i y hy => ?_⟩
      cases i with
      | zero =>
        simp at hy; subst hy
        refine ⟨_, rfl, ?_⟩
        have := he t _ hx
        simp [resF, this, AV.den]
      | succ i => simpa using h2 i y (by simpa using hy)
    · cases h
  | .cell p t :: l, ps, h => by
    simp only [resultsA] at h
    split at h
    · rename_i j off hp'
      split at h
      · rename_i x q hx hq
        injection h with h; subst h
        obtain ⟨h1, h2⟩ := resultsA_spec he hh l q hq
        refine ⟨by simpa using h1, fun i y hy => ?_⟩
        cases i with
        | zero =>
          simp at hy; subst hy
          refine ⟨_, rfl, ?_⟩
          have := he p _ hp'
          simp only [AV.den, Part.den, Cell.den] at this
          have h3 := loadA_run hh hx
          have h4 : a.tmps.getD p undef = .pointer (some ⟨(r j).1, (r j).2 + off, none⟩) := by simp [this]
          simp only [resF, h4]
          simpa [asAddr] using h3
        | succ i => simpa using h2 i y (by simpa using hy)
      · cases h
    · cases h

theorem results_run {P : Program} {fn : Func} {r : Loc} {hp : Hp} {env : Env} {a : Act} {w : World} (he : EnvOk r env a) (hh : HeapIs r hp w) {ps : List Part} (h : resultsA P hp env fn.results.toList = some ps) :
    (results fn a.tmps).run P w = .ok ((mkRes ps).den r) w := by
  obtain ⟨h1, h2⟩ := resultsA_spec he hh _ _ h
  have hm := mapM_run (P := P) (w := w) _ fn.results.toList (ps.map (Part.den r)) h2 h1
  rw [results_eq, Array.mapM_eq_mapM_toList, Sem.run_bind, Sem.run_map, hm]
  simp only [Result.andThen_ok, Sem.run_pure]
  congr 1
  match ps with
  | [] => rfl
  | [x] => rfl
  | x :: y :: l => simp [mkRes, AV.den]

/-! ### A call -/
def argEnv : List AV → Nat → Env
  | [], _ => []
  | a :: l, k => (k, a) :: argEnv l (k + 1)

theorem argEnv_look : ∀ (l : List AV) (k i : Nat) (av : AV), look (argEnv l k) i = some av → k ≤ i ∧ l[i - k]? = some av
  | [], _, _, _, h => by cases h
  | a :: l, k, i, av, h => by
    simp only [argEnv] at h
    rw [look_cons] at h
    split at h
    · rename_i e; subst e; exact ⟨Nat.le_refl _, by simpa using h⟩
    · obtain ⟨h1, h2⟩ := argEnv_look l (k + 1) i av h
      refine ⟨by omega, ?_⟩
      rw [show i - k = (i - (k + 1)) + 1 by omega]
      simpa using h2

def sameLens : Hp → Hp → Bool
  | [], [] => true
  | a :: x, b :: y => Nat.beq a.length b.length && sameLens x y
  | _, _ => false

theorem sameLens_spec : ∀ {x y : Hp}, sameLens x y = true → x.map List.length = y.map List.length
  | [], [], _ => rfl
  | a :: x, b :: y, h => by
    simp only [sameLens, Bool.and_eq_true] at h
    simp [Nat.eq_of_beq_eq_true h.1, sameLens_spec h.2]
  | [], _ :: _, h => by cases h
  | _ :: _, [], h => by cases h

def evalFn (P : Program) (T : FuncId → Option Summ) (fuel : Nat) (fn : Func) (c : Code) (args : List AV) (H : Hp) : Tree (AV × Hp) :=
  bif Nat.ble args.length fn.ntmps then
    (evalCode P T fn.ntmps fuel c ⟨argEnv args 0, H⟩).bind fun x => match x.1 with
      | .exit _ => .fail
      | _ => match resultsA P x.2.hp x.2.env fn.results.toList with
        | some ps => bif sameLens (x.2.hp.take H.length) H && ((mkRes ps).ltB H.length && hpLtB H.length (x.2.hp.take H.length)) then .ret (mkRes ps, x.2.hp.take H.length) else .fail
        | none => .fail
  else .fail

theorem evalFn_calls {P : Program} {T : FuncId → Option Summ} (hT : TOk P T) (hm : P.follows .mixedOrders = true) {f : FuncId} {fn : Func} {c : Code} (hf : P.funcs[f]? = some fn) (hb : fn.body = some c)
    {fuel : Nat} {r : Loc} {args : List AV} {H H' : Hp} {v : AV} {w : World} (h : (evalFn P T fuel fn c args H).run = some (v, H')) (ha : ∀ a ∈ args, a.lt H.length) (hl : ∀ l ∈ H, ∀ c ∈ l, c.lt H.length)
    (hh : HeapIs r H w) (hd : Disj r H) :
    Calls P f (args.map (AV.den r)).toArray w fun e w' => e = .returned (v.den r) ∧ HeapIs r H' w' ∧ Fr (Rng r H) w w' ∧ H'.map List.length = H.map List.length ∧ v.lt H.length := by
  unfold evalFn at h
  cases hble : Nat.ble args.length fn.ntmps with
  | false => rw [hble] at h; cases h
  | true =>
    rw [hble] at h
    simp only [cond_true] at h
    have hle : args.length ≤ fn.ntmps := Nat.le_of_ble_eq_true hble
    obtain ⟨⟨ex, st⟩, h1, h2⟩ := Tree.run_bind_some h
    refine calls_of_wp hf hb ?_
    let a0 : Act := { tmps := (args.map (AV.den r)).toArray ++ Array.replicate (fn.ntmps - (args.map (AV.den r)).toArray.size) undef, defers := [] }
    have hc : Conc fn.ntmps w (Rng r H) H.length r r ⟨argEnv args 0, H⟩ a0 w := by
      refine ⟨rfl, by simp [a0]; omega, fun k av hk => ?_, fun k av hk => ?_, ⟨hh, hd, hl, Fr.refl _ _, fun b o h => .inr h, fun _ _ => rfl, Nat.le_refl _⟩⟩
      · obtain ⟨_, h3⟩ := argEnv_look args 0 k av hk
        simp only [Nat.sub_zero] at h3
        have hk' : k < args.length := (List.getElem?_eq_some_iff.1 h3).1
        simp only [a0]
        rw [Array.getElem?_append_left (by simpa using hk')]
        simp [h3]
      · obtain ⟨_, h3⟩ := argEnv_look args 0 k av hk
        exact ha av (List.mem_of_getElem? h3)
    refine wp_mono (code_wp hT hm c _ st ex r a0 w h1 hc) ?_
    rintro e a1 w1 ⟨rfl, r1, hc1⟩
    have main : ∀ ps, resultsA P st.hp st.env fn.results.toList = some ps → (bif sameLens (st.hp.take H.length) H && ((mkRes ps).ltB H.length && hpLtB H.length (st.hp.take H.length)) then Tree.ret (mkRes ps, st.hp.take H.length) else .fail).run = some (v, H') →
        a1.defers = [] ∧ ∃ u, (results fn a1.tmps).run P w1 = .ok u w1 ∧ Ending.returned u = .returned (v.den r) ∧ HeapIs r H' w1 ∧ Fr (Rng r H) w w1 ∧ H'.map List.length = H.map List.length ∧ v.lt H.length := by
      intro ps hps hr
      cases hb2 : (sameLens (st.hp.take H.length) H && ((mkRes ps).ltB H.length && hpLtB H.length (st.hp.take H.length))) with
      | false => rw [hb2] at hr; cases hr
      | true =>
        rw [hb2] at hr
        simp only [cond_true, Tree.run, Option.some.injEq, Prod.mk.injEq] at hr
        obtain ⟨rfl, rfl⟩ := hr
        simp only [Bool.and_eq_true] at hb2
        have hlt := AV.ltB_lt hb2.2.1
        refine ⟨hc1.defers, _, results_run hc1.env hc1.mem.heap hps, by rw [AV.den_agree hc1.mem.par hlt], ?_, hc1.mem.frame, sameLens_spec hb2.1, hlt⟩
        intro j l hj
        have hj' : st.hp[j]? = some l ∧ j < H.length := by
          rw [List.getElem?_take] at hj
          split at hj
          · exact ⟨hj, by assumption⟩
          · cases hj
        have h3 := hc1.mem.heap j l hj'.1
        rw [hc1.mem.par j hj'.2, denCells_agree hc1.mem.par (hpLtB_lt hb2.2.2 l (List.mem_of_getElem? hj))] at h3
        exact h3
    cases ex with
    | exit id => cases h2
    | normal =>
      simp only [] at h2
      split at h2
      · rename_i ps hps; exact main ps hps h2
      · cases h2
    | ret =>
      simp only [] at h2
      split at h2
      · rename_i ps hps; exact main ps hps h2
      · cases h2

theorem summ_of_eval {P : Program} {T : FuncId → Option Summ} (hT : TOk P T) (hm : P.follows .mixedOrders = true) {f : FuncId} {fn : Func} {c : Code} (hf : P.funcs[f]? = some fn)
    (hn : (fn.name == "runtime.NumGoroutine") = false) (hb : fn.body = some c) (fuel : Nat) {s : Summ}
    (h : ∀ args H v H', s.g args H = some (v, H') → (evalFn P T fuel fn c args H).run = some (v, H')) : SummOk P f s :=
  ⟨⟨fn, hf, hn, by rw [hb]; rfl⟩, fun _ args H H' v _ hg ha hl hh hd => evalFn_calls hT hm hf hb (h args H v H' hg) ha hl hh hd⟩

end Go.Sy
