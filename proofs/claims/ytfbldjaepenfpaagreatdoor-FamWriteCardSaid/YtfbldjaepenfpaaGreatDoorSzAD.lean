/-
  A symbolic machine for one call, with rows of any length: code.
  A symbolic machine for one call, with rows of any length: a call's contract out of its code.
-/
import Derived.Test.YtfbldjaepenfpaaGreatDoorSzAB
noncomputable section
namespace Go.Sz
open Go Go.RowKit Go.Sy
set_option linter.unusedVariables false
set_option linter.unusedSimpArgs false
set_option linter.constructorNameAsVariable false
inductive Ex where
  | normal
  | exit (id : Nat)
  | ret
  | pan (x : Part)
def Ex.exit' : Ex → Exit
  | .normal => .normal
  | .exit id => .exit id
  | .ret => .ret
  | .pan _ => .normal
structure Orc where
  sh : Shape
  coe : List (Nat × Tys)
  k2 : List Nat
  coe2 : List (Nat × Tys)
  o : sh.den → Tree (Ex × St)
def keysSh : List (Nat × ShA) → List Nat
  | [] => []
  | s :: l => s.1 :: keysSh l
abbrev LT := List Nat → Option Orc
def useO (m : Nat) (c : Orc) (st : St) : Tree (Ex × St) := (hsT c.coe st).bind fun st0 => match canon m c.coe (keysSh c.sh.env) st0 with
  | some st1 => match c.sh.dec st1 with
    | some x => c.o x
    | none => .fail
  | none => .fail
def hook (m : Nat) (b : Bool) (L : LT) (p : List Nat) (st : St) (t : Tree (Ex × St)) : Tree (Ex × St) := bif b then t else match L p with
  | none => t
  | some c => useO m c st
def keysE : Env → List Nat → List Nat
  | [], acc => acc
  | (k, _) :: r, acc => bif memN k acc then keysE r acc else keysE r (k :: acc)
def loopN (f : St → Tree (Ex × St)) (ks : List Nat) : Nat → St → Tree (Ex × St)
  | 0, _ => .fail
  | n + 1, st => (f ⟨restrE (look st.env) ks, st.hp, st.nx⟩).bind fun x => match x.1 with
    | .normal => loopN f ks n x.2
    | .exit id => .ret (.exit id, x.2)
    | .ret => .ret (.ret, x.2)
    | .pan q => .ret (.pan q, x.2)
def turnT (m : Nat) (c : Orc) (f : St → Tree (Ex × St)) (st : St) : Tree (Ex × St) := (f st).bind fun x => match x.1 with
  | .normal => (hsT c.coe x.2).bind fun st0 => match canon m c.coe (keysSh c.sh.env) st0 with
    | some st' => .ret (.normal, st')
    | none => .fail
  | .exit id => (hsT c.coe2 x.2).bind fun st0 => match canon m c.coe2 c.k2 st0 with
    | some st' => .ret (.exit id, st')
    | none => .fail
  | .ret => (hsT c.coe2 x.2).bind fun st0 => match canon m c.coe2 c.k2 st0 with
    | some st' => .ret (.ret, st')
    | none => .fail
  | .pan q => .ret (.pan q, x.2)
def loopC (t : St → Tree (Ex × St)) : Nat → St → Tree (Ex × St)
  | 0, _ => .fail
  | n + 1, st => (t st).bind fun x => match x.1 with
    | .normal => loopC t n x.2
    | .exit id => .ret (.exit id, x.2)
    | .ret => .ret (.ret, x.2)
    | .pan q => .ret (.pan q, x.2)
def endT (m : Nat) (c : Orc) (f : St → Tree (Ex × St)) (st : St) : Tree (Ex × St) := (f st).bind fun x => match x.1 with
  | .pan q => .ret (.pan q, x.2)
  | ex => (hsT c.coe2 x.2).bind fun st0 => match canon m c.coe2 c.k2 st0 with
    | some st' => .ret (ex, st')
    | none => .fail
def evalCode (P : Program) (T : Tab) (N m fuel : Nat) (L : LT) : Code → Bool → List Nat → St → Tree (Ex × St)
  | .skip, _, _ => fun st => .ret (.normal, st)
  | .label _, _, _ => fun st => .ret (.normal, st)
  | .region _ ops draw, b, p => fun st => hook m b L p st (((bif draw then drawT P T N ops st else seqP P T N ops ops.toList st).bind fun r => match r.1 with
    | none => .ret (.normal, r.2)
    | some q => .ret (.pan q, r.2)).flatB T.cl)
  | .seq x y, b, p => fun st => hook m b L p st ((evalCode P T N m fuel L x false (0 :: p) st).bind fun r => match r.1 with
    | .normal => evalCode P T N m fuel L y false (1 :: p) r.2
    | .exit id => .ret (.exit id, r.2)
    | .ret => .ret (.ret, r.2)
    | .pan q => .ret (.pan q, r.2))
  | .cond c x y, b, p => fun st => hook m b L p st (match evalO (look st.env) c with
    | some (.p (.one (.v (.bool b)))) => Tree.iteB T.cl b (evalCode P T N m fuel L x false (0 :: p) st) (evalCode P T N m fuel L y false (1 :: p) st)
    | some (.p (.one (.y _ (.v (.bool b))))) => .sy b (evalCode P T N m fuel L x false (0 :: p) st) (evalCode P T N m fuel L y false (1 :: p) st)
    | _ => .fail)
  | .block id x, b, p => fun st => hook m b L p st ((evalCode P T N m fuel L x false (0 :: p) st).bind fun r => match r.1 with
    | .normal => .ret (.normal, r.2)
    | .exit id' => bif Nat.beq id' id then .ret (.normal, r.2) else .ret (.exit id', r.2)
    | .ret => .ret (.ret, r.2)
    | .pan q => .ret (.pan q, r.2))
  | .loop x, b, p => fun st => hook m b L p st (loopN (evalCode P T N m fuel L x false (0 :: p)) (keysE st.env []) fuel st)
  | .exit id, _, _ => fun st => .ret (.exit id, st)
  | .ret, _, _ => fun st => .ret (.ret, st)
  | .scope x, b, p => fun st => hook m b L p st (evalCode P T N m fuel L x false (0 :: p) st)
  | .rangeFunc .., _, _ => fun _ => .fail
  | .goto _, _, _ => fun _ => .fail
  | .refuse _, _, _ => fun _ => .fail
def subAt (c : Code) : List Nat → Option Code
  | [] => some c
  | i :: p => match subAt c p with
    | some (.seq x y) => bif Nat.beq i 0 then some x else some y
    | some (.cond _ x y) => bif Nat.beq i 0 then some x else some y
    | some (.block _ x) => some x
    | some (.loop x) => some x
    | some (.scope x) => some x
    | _ => none
def partT (P : Program) (T : Tab) (N m fuel : Nat) (L : LT) (c : Orc) (p : List Nat) (n : Nat) : Code → St → Tree (Ex × St)
  | .loop x => loopC (turnT m c (evalCode P T N m fuel L x false (0 :: p))) n
  | x => endT m c (evalCode P T N m fuel L x true p)
def LOk2 (P : Program) (T : Tab) (N m fuel : Nat) (L L' : LT) (c0 : Code) : Prop := ∀ p c, L' p = some c → ∀ x, subAt c0 p = some x → ∀ d ex st', (c.o d).run = some (ex, st') →
  ∃ n, (partT P T N m fuel L c p n x (c.sh.enc d)).run = some (ex, st')
def LOk (P : Program) (T : Tab) (N m fuel : Nat) (L : LT) (c0 : Code) : Prop := LOk2 P T N m fuel L L c0
section
variable {P : Program} {T : Tab} {ds : List Deferred} {N : Nat} {w0 : World} {S : Nat → Nat → Prop} {R0 : Frag} {m : Nat} {r0 : Loc}
theorem useO_spec {c : Orc} {st : St} {y : Ex × St} (h : (useO m c st).run = some y) : ∃ st0 x, (hsT c.coe st).run = some st0 ∧ canon m c.coe (keysSh c.sh.env) st0 = some (c.sh.enc x) ∧ (c.o x).run = some (y.1, y.2) := by
  unfold useO at h
  obtain ⟨st0, h0, h⟩ := Tree.run_bind_some h
  split at h
  · rename_i st1 h1
    split at h
    · rename_i x hx
      exact ⟨st0, x, h0, by rw [← Shape.dec_eq hx]; exact h1, h⟩
    · cases h
  · cases h
def PostC (ds : List Deferred) (N : Nat) (w0 : World) (S : Nat → Nat → Prop) (R0 : Frag) (m : Nat) (r0 : Loc) (ex : Ex) (st : St) (e : Exit) (a : Act) (w : World) : Prop := match ex with
  | .pan q => ∃ F r p, Conc ds N w0 S R0 m r0 st F r a w ∧ q.rep F r p ∧ q.inn (fun j => j < st.nx) ∧ e = .panic [{ v := p, recovered := false }]
  | ex => e = ex.exit' ∧ ∃ F r, Conc ds N w0 S R0 m r0 st F r a w
def Goes (P : Program) (ds : List Deferred) (N : Nat) (w0 : World) (S : Nat → Nat → Prop) (R0 : Frag) (m : Nat) (r0 : Loc) (c : Code) (t : St → Tree (Ex × St)) : Prop :=
  ∀ (st st' : St) (ex : Ex) (F : Frag) (r : Loc) (a : Act) (w : World), (t st).run = some (ex, st') → Conc ds N w0 S R0 m r0 st F r a w → c.wp P (PostC ds N w0 S R0 m r0 ex st') a w
theorem Conc.restr {st : St} {F : Frag} {r : Loc} {a : Act} {w : World} (h : Conc ds N w0 S R0 m r0 st F r a w) (ks : List Nat) : Conc ds N w0 S R0 m r0 ⟨restrE (look st.env) ks, st.hp, st.nx⟩ F r a w :=
  ⟨h.defers, h.size, fun k av hk => h.env k av (restrE_look hk), fun k av hk => h.inn k av (restrE_look hk), h.mem, h.par, h.mle⟩
theorem loopN_goes {x : Code} {f : St → Tree (Ex × St)} (hf : Goes P ds N w0 S R0 m r0 x f) (ks : List Nat) : ∀ (n : Nat) (st st' : St) (ex : Ex) (F : Frag) (r : Loc) (a : Act) (w : World), (loopN f ks n st).run = some (ex, st') → Conc ds N w0 S R0 m r0 st F r a w →
    Code.rounds P x (PostC ds N w0 S R0 m r0 ex st') n a w := by
  intro n
  induction n with
  | zero => intro st st' ex F r a w h _; cases h
  | succ n ihn =>
    intro st st' ex F r a w h hc
    simp only [loopN] at h
    obtain ⟨⟨ex1, st1⟩, h1, h2⟩ := Tree.run_bind_some h
    rw [rounds_succ]
    refine wp_mono (hf _ st1 ex1 F r a w h1 (hc.restr ks)) ?_
    intro e a1 w1 hpc
    cases ex1 with
    | normal => obtain ⟨rfl, F1, r1, hc1⟩ := hpc; exact ihn _ st' ex F1 r1 a1 w1 h2 hc1
    | exit id =>
      simp only [Tree.run, Option.some.injEq, Prod.mk.injEq] at h2
      obtain ⟨rfl, rfl⟩ := h2
      obtain ⟨rfl, F1, r1, hc1⟩ := hpc
      exact ⟨rfl, F1, r1, hc1⟩
    | ret =>
      simp only [Tree.run, Option.some.injEq, Prod.mk.injEq] at h2
      obtain ⟨rfl, rfl⟩ := h2
      obtain ⟨rfl, F1, r1, hc1⟩ := hpc
      exact ⟨rfl, F1, r1, hc1⟩
    | pan q =>
      simp only [Tree.run, Option.some.injEq, Prod.mk.injEq] at h2
      obtain ⟨rfl, rfl⟩ := h2
      obtain ⟨F1, r1, p, hc1, g1, g2, rfl⟩ := hpc
      exact ⟨F1, r1, p, hc1, g1, g2, rfl⟩
theorem turn_goes {x : Code} {f : St → Tree (Ex × St)} (hf : Goes P ds N w0 S R0 m r0 x f) (c : Orc) : Goes P ds N w0 S R0 m r0 x (turnT m c f) := by
  intro st st' ex F r a w h hc
  unfold turnT at h
  obtain ⟨⟨ex1, st1⟩, h1, h2⟩ := Tree.run_bind_some h
  refine wp_mono (hf _ st1 ex1 F r a w h1 hc) ?_
  intro e a1 w1 hpc
  cases ex1
  case pan q =>
    simp only [Tree.run, Option.some.injEq, Prod.mk.injEq] at h2
    obtain ⟨rfl, rfl⟩ := h2
    exact hpc
  all_goals
    obtain ⟨rfl, F1, r1, hc1⟩ := hpc
    dsimp only at h2
    obtain ⟨st0, h0, h2⟩ := Tree.run_bind_some h2
    split at h2 <;> first | (cases h2; done) | skip
    rename_i st2 hcan
    simp only [Tree.run, Option.some.injEq, Prod.mk.injEq] at h2
    obtain ⟨rfl, rfl⟩ := h2
    obtain ⟨r0, hc0⟩ := hsT_conc P hc1 h0
    obtain ⟨r2, hc2⟩ := hc0.canon hcan
    exact ⟨rfl, F1, r2, hc2⟩
theorem loopC_goes {x : Code} {t : St → Tree (Ex × St)} (hf : Goes P ds N w0 S R0 m r0 x t) : ∀ (n : Nat) (st st' : St) (ex : Ex) (F : Frag) (r : Loc) (a : Act) (w : World), (loopC t n st).run = some (ex, st') → Conc ds N w0 S R0 m r0 st F r a w →
    Code.rounds P x (PostC ds N w0 S R0 m r0 ex st') n a w := by
  intro n
  induction n with
  | zero => intro st st' ex F r a w h _; cases h
  | succ n ihn =>
    intro st st' ex F r a w h hc
    simp only [loopC] at h
    obtain ⟨⟨ex1, st1⟩, h1, h2⟩ := Tree.run_bind_some h
    rw [rounds_succ]
    refine wp_mono (hf _ st1 ex1 F r a w h1 hc) ?_
    intro e a1 w1 hpc
    cases ex1 with
    | normal => obtain ⟨rfl, F1, r1, hc1⟩ := hpc; exact ihn _ st' ex F1 r1 a1 w1 h2 hc1
    | exit id =>
      simp only [Tree.run, Option.some.injEq, Prod.mk.injEq] at h2
      obtain ⟨rfl, rfl⟩ := h2
      obtain ⟨rfl, F1, r1, hc1⟩ := hpc
      exact ⟨rfl, F1, r1, hc1⟩
    | ret =>
      simp only [Tree.run, Option.some.injEq, Prod.mk.injEq] at h2
      obtain ⟨rfl, rfl⟩ := h2
      obtain ⟨rfl, F1, r1, hc1⟩ := hpc
      exact ⟨rfl, F1, r1, hc1⟩
    | pan q =>
      simp only [Tree.run, Option.some.injEq, Prod.mk.injEq] at h2
      obtain ⟨rfl, rfl⟩ := h2
      obtain ⟨F1, r1, p, hc1, g1, g2, rfl⟩ := hpc
      exact ⟨F1, r1, p, hc1, g1, g2, rfl⟩
theorem end_goes {x : Code} {f : St → Tree (Ex × St)} (hf : Goes P ds N w0 S R0 m r0 x f) (c : Orc) : Goes P ds N w0 S R0 m r0 x (endT m c f) := by
  intro st st' ex F r a w h hc
  unfold endT at h
  obtain ⟨⟨ex1, st1⟩, h1, h2⟩ := Tree.run_bind_some h
  refine wp_mono (hf _ st1 ex1 F r a w h1 hc) ?_
  intro e a1 w1 hpc
  cases ex1
  case pan q =>
    simp only [Tree.run, Option.some.injEq, Prod.mk.injEq] at h2
    obtain ⟨rfl, rfl⟩ := h2
    exact hpc
  all_goals
    obtain ⟨rfl, F1, r1, hc1⟩ := hpc
    dsimp only at h2
    obtain ⟨st0, h0, h2⟩ := Tree.run_bind_some h2
    split at h2 <;> first | (cases h2; done) | skip
    rename_i st2 hcan
    simp only [Tree.run, Option.some.injEq, Prod.mk.injEq] at h2
    obtain ⟨rfl, rfl⟩ := h2
    obtain ⟨r0, hc0⟩ := hsT_conc P hc1 h0
    obtain ⟨r2, hc2⟩ := hc0.canon hcan
    exact ⟨rfl, F1, r2, hc2⟩
theorem code_wp {K : Know} (hT : TOk K P T) (hk : K.ok R0) (hm : P.follows .mixedOrders = true) {fuel : Nat} {L : LT} {c0 : Code} (hL : LOk P T N m fuel L c0) : ∀ (c : Code) (p : List Nat), subAt c0 p = some c → ∀ b, Goes P ds N w0 S R0 m r0 c (evalCode P T N m fuel L c b p) := by
  -- from the raw way to the way that asks
  have ask : ∀ (c : Code) (p : List Nat) (t : St → Tree (Ex × St)), subAt c0 p = some c → (∀ st, evalCode P T N m fuel L c true p st = t st) → (∀ b st, evalCode P T N m fuel L c b p st = hook m b L p st (t st)) →
      (∀ x, c ≠ .loop x) → Goes P ds N w0 S R0 m r0 c t → ∀ b, Goes P ds N w0 S R0 m r0 c (evalCode P T N m fuel L c b p) := by
    intro c p t hp he ht hnl hg b st st' ex F r a w h hc
    rw [ht] at h
    unfold hook at h
    cases b with
    | true => exact hg st st' ex F r a w h hc
    | false =>
      simp only [cond_false] at h
      split at h
      · exact hg st st' ex F r a w h hc
      · rename_i oc hoc
        obtain ⟨st0, x, h0, h1, h2⟩ := useO_spec h
        obtain ⟨n, h3⟩ := hL p oc hoc c hp x ex st' h2
        obtain ⟨r2, hc2⟩ := hsT_conc P hc h0
        obtain ⟨r1, hc1⟩ := hc2.canon h1
        have e : partT P T N m fuel L oc p n c = endT m oc (evalCode P T N m fuel L c true p) := by
          cases c <;> first | rfl | exact absurd rfl (hnl _)
        rw [e] at h3
        have e2 : evalCode P T N m fuel L c true p = t := funext he
        rw [e2] at h3
        exact end_goes hg oc _ st' ex F r1 a w h3 hc1
  intro c
  induction c with
  | skip =>
    intro p hp b st st' ex F r a w h hc
    simp only [evalCode, Tree.run, Option.some.injEq, Prod.mk.injEq] at h
    obtain ⟨rfl, rfl⟩ := h
    exact wp_skip ⟨rfl, F, r, hc⟩
  | label l =>
    intro p hp b st st' ex F r a w h hc
    simp only [evalCode, Tree.run, Option.some.injEq, Prod.mk.injEq] at h
    obtain ⟨rfl, rfl⟩ := h
    exact wp_label ⟨rfl, F, r, hc⟩
  | region id ops draw =>
    intro p hp
    refine ask _ p (fun st => ((bif draw then drawT P T N ops st else seqP P T N ops ops.toList st).bind fun r => match r.1 with
      | none => .ret (.normal, r.2)
      | some q => .ret (.pan q, r.2)).flatB T.cl) hp (fun st => rfl) (fun b st => rfl) (fun x e => by cases e) ?_
    intro st st' ex F r a w h hc
    simp only [Tree.flatB_run] at h
    obtain ⟨⟨x, st1⟩, h1, h2⟩ := Tree.run_bind_some h
    have hQ : QP ds N w0 S R0 m r0 (PostC ds N w0 S R0 m r0 ex st') x st1 := by
      cases x with
      | none =>
        simp only [Tree.run, Option.some.injEq, Prod.mk.injEq] at h2
        obtain ⟨rfl, rfl⟩ := h2
        exact fun F' r' a' w' h => ⟨rfl, F', r', h⟩
      | some q =>
        simp only [Tree.run, Option.some.injEq, Prod.mk.injEq] at h2
        obtain ⟨rfl, rfl⟩ := h2
        exact fun F' r' a' w' p h g1 g2 => ⟨F', r', p, h, g1, g2, rfl⟩
    cases draw with
    | true => exact drawT_wp hT hk hm h1 hc hQ
    | false =>
      have := seqP_wp hT hk (ops := ops) hQ ops.toList [] st F r a w rfl h1 hc
      refine wp_region ?_
      rw [List.range_eq_range']
      simpa using this
  | seq x y ihx ihy =>
    intro p hp
    refine ask _ p (fun st => (evalCode P T N m fuel L x false (0 :: p) st).bind fun r => match r.1 with
      | .normal => evalCode P T N m fuel L y false (1 :: p) r.2
      | .exit id => .ret (.exit id, r.2)
      | .ret => .ret (.ret, r.2)
      | .pan q => .ret (.pan q, r.2)) hp (fun st => rfl) (fun b st => rfl) (fun x e => by cases e) ?_
    intro st st' ex F r a w h hc
    obtain ⟨⟨ex1, st1⟩, h1, h2⟩ := Tree.run_bind_some h
    refine wp_seq (wp_mono (ihx (0 :: p) (by simp [subAt, hp]) false st st1 ex1 F r a w h1 hc) ?_)
    intro e a1 w1 hpc
    cases ex1 with
    | normal => obtain ⟨rfl, F1, r1, hc1⟩ := hpc; exact ihy (1 :: p) (by simp only [subAt, hp]; rfl) false st1 st' ex F1 r1 a1 w1 h2 hc1
    | exit id =>
      simp only [Tree.run, Option.some.injEq, Prod.mk.injEq] at h2
      obtain ⟨rfl, rfl⟩ := h2
      obtain ⟨rfl, F1, r1, hc1⟩ := hpc
      exact ⟨rfl, F1, r1, hc1⟩
    | ret =>
      simp only [Tree.run, Option.some.injEq, Prod.mk.injEq] at h2
      obtain ⟨rfl, rfl⟩ := h2
      obtain ⟨rfl, F1, r1, hc1⟩ := hpc
      exact ⟨rfl, F1, r1, hc1⟩
    | pan q =>
      simp only [Tree.run, Option.some.injEq, Prod.mk.injEq] at h2
      obtain ⟨rfl, rfl⟩ := h2
      obtain ⟨F1, r1, p', hc1, g1, g2, rfl⟩ := hpc
      exact ⟨F1, r1, p', hc1, g1, g2, rfl⟩
  | cond c x y ihx ihy =>
    intro p hp
    refine ask _ p (fun st => match evalO (look st.env) c with
      | some (.p (.one (.v (.bool b)))) => Tree.iteB T.cl b (evalCode P T N m fuel L x false (0 :: p) st) (evalCode P T N m fuel L y false (1 :: p) st)
      | some (.p (.one (.y _ (.v (.bool b))))) => .sy b (evalCode P T N m fuel L x false (0 :: p) st) (evalCode P T N m fuel L y false (1 :: p) st)
      | _ => .fail) hp (fun st => rfl) (fun b st => rfl) (fun x e => by cases e) ?_
    intro st st' ex F r a w h hc
    simp only at h
    split at h
    · rename_i b hb
      have hv := evalO_rep hc.env hb
      simp only [AV.rep, Part.rep, Cell.rep] at hv
      rw [Tree.iteB_run] at h
      cases b with
      | true => exact wp_cond_true hv (ihx (0 :: p) (by simp [subAt, hp]) false st st' ex F r a w h hc)
      | false => exact wp_cond_false hv (ihy (1 :: p) (by simp only [subAt, hp]; rfl) false st st' ex F r a w h hc)
    · rename_i i b hb
      have hv := evalO_rep hc.env hb
      simp only [AV.rep, Part.rep, Cell.rep, PV.val] at hv
      simp only [Tree.run] at h
      cases b with
      | true => exact wp_cond_true hv (ihx (0 :: p) (by simp [subAt, hp]) false st st' ex F r a w h hc)
      | false => exact wp_cond_false hv (ihy (1 :: p) (by simp only [subAt, hp]; rfl) false st st' ex F r a w h hc)
    · cases h
  | block id x ih =>
    intro p hp
    refine ask _ p (fun st => (evalCode P T N m fuel L x false (0 :: p) st).bind fun r => match r.1 with
      | .normal => .ret (.normal, r.2)
      | .exit id' => bif Nat.beq id' id then .ret (.normal, r.2) else .ret (.exit id', r.2)
      | .ret => .ret (.ret, r.2)
      | .pan q => .ret (.pan q, r.2)) hp (fun st => rfl) (fun b st => rfl) (fun x e => by cases e) ?_
    intro st st' ex F r a w h hc
    obtain ⟨⟨ex1, st1⟩, h1, h2⟩ := Tree.run_bind_some h
    refine wp_block (wp_mono (ih (0 :: p) (by simp [subAt, hp]) false st st1 ex1 F r a w h1 hc) ?_)
    intro e a1 w1 hpc
    cases ex1 with
    | normal =>
      simp only [Tree.run, Option.some.injEq, Prod.mk.injEq] at h2
      obtain ⟨rfl, rfl⟩ := h2
      obtain ⟨rfl, F1, r1, hc1⟩ := hpc
      exact ⟨rfl, F1, r1, hc1⟩
    | ret =>
      simp only [Tree.run, Option.some.injEq, Prod.mk.injEq] at h2
      obtain ⟨rfl, rfl⟩ := h2
      obtain ⟨rfl, F1, r1, hc1⟩ := hpc
      exact ⟨rfl, F1, r1, hc1⟩
    | pan q =>
      simp only [Tree.run, Option.some.injEq, Prod.mk.injEq] at h2
      obtain ⟨rfl, rfl⟩ := h2
      obtain ⟨F1, r1, p', hc1, g1, g2, rfl⟩ := hpc
      exact ⟨F1, r1, p', hc1, g1, g2, rfl⟩
    | exit id' =>
      obtain ⟨rfl, F1, r1, hc1⟩ := hpc
      simp only [Ex.exit', Exit.inBlock] at h2 ⊢
      by_cases hid : id' = id
      · subst hid
        simp only [Nat.beq_refl, cond_true, Tree.run, Option.some.injEq, Prod.mk.injEq] at h2
        obtain ⟨rfl, rfl⟩ := h2
        rw [if_pos rfl]
        exact ⟨rfl, F1, r1, hc1⟩
      · have hb : Nat.beq id' id = false := by
          cases hb : Nat.beq id' id with
          | false => rfl
          | true => exact absurd (Nat.eq_of_beq_eq_true hb) hid
        simp only [hb, cond_false, Tree.run, Option.some.injEq, Prod.mk.injEq] at h2
        obtain ⟨rfl, rfl⟩ := h2
        rw [if_neg hid]
        exact ⟨rfl, F1, r1, hc1⟩
  | loop x ih =>
    intro p hp b st st' ex F r a w h hc
    have hsub : subAt c0 (0 :: p) = some x := by simp [subAt, hp]
    have hx := ih (0 :: p) hsub false
    have raw : (loopN (evalCode P T N m fuel L x false (0 :: p)) (keysE st.env []) fuel st).run = some (ex, st') → (Code.loop x).wp P (PostC ds N w0 S R0 m r0 ex st') a w := fun h => wp_loop_rounds fuel (loopN_goes hx _ fuel st st' ex F r a w h hc)
    simp only [evalCode, hook] at h
    cases b with
    | true => exact raw h
    | false =>
      simp only [cond_false] at h
      split at h
      · exact raw h
      · rename_i oc hoc
        obtain ⟨st0, d, h0, h1, h2⟩ := useO_spec h
        obtain ⟨n, h3⟩ := hL p oc hoc _ hp d ex st' h2
        obtain ⟨r2, hc2⟩ := hsT_conc P hc h0
        obtain ⟨r1, hc1⟩ := hc2.canon h1
        exact wp_loop_rounds n (loopC_goes (turn_goes hx oc) n _ st' ex F r1 a w h3 hc1)
  | exit id =>
    intro p hp b st st' ex F r a w h hc
    simp only [evalCode, Tree.run, Option.some.injEq, Prod.mk.injEq] at h
    obtain ⟨rfl, rfl⟩ := h
    exact wp_exit ⟨rfl, F, r, hc⟩
  | ret =>
    intro p hp b st st' ex F r a w h hc
    simp only [evalCode, Tree.run, Option.some.injEq, Prod.mk.injEq] at h
    obtain ⟨rfl, rfl⟩ := h
    exact wp_ret ⟨rfl, F, r, hc⟩
  | scope x ih =>
    intro p hp
    refine ask _ p (evalCode P T N m fuel L x false (0 :: p)) hp (fun st => rfl) (fun b st => rfl) (fun x e => by cases e) ?_
    intro st st' ex F r a w h hc
    refine wp_scope_straight (wp_mono (ih (0 :: p) (by simp [subAt, hp]) false st st' ex F r a w h hc) ?_)
    intro e a1 w1 hpc
    cases ex
    case pan q => obtain ⟨F1, r1, p', hc1, g1, g2, rfl⟩ := hpc; exact ⟨F1, r1, p', hc1, g1, g2, rfl⟩
    all_goals
      obtain ⟨rfl, F1, r1, hc1⟩ := hpc
      exact ⟨rfl, F1, r1, hc1⟩
  | rangeFunc f ps x y _ _ => intro p hp b st st' ex F r a w h; cases h
  | goto l => intro p hp b st st' ex F r a w h; cases h
  | refuse s => intro p hp b st st' ex F r a w h; cases h
end
end Go.Sz
namespace Go.Sz
open Go Go.RowKit Go.Sy
set_option linter.unusedVariables false
set_option linter.unusedSimpArgs false
set_option linter.constructorNameAsVariable false
/-! ### Results -/
def resultsT (P : Program) (H : Hf) (E : Ef) : List ResultVar → Tree (List Part)
  | [] => .ret []
  | .tmp t :: l => match E t with
    | some (.p x) => (resultsT P H E l).bind fun r => .ret (x :: r)
    | _ => .fail
  | .cell a t :: l => match E a with
    | some (.p (.one (.p j off))) => (loadT P H t (.p j off)).bind fun x => (resultsT P H E l).bind fun r => .ret (x :: r)
    | _ => .fail
def mkRes : List Part → AV
  | [x] => .p x
  | l => .t l
theorem mapM_run {P : Program} {w : World} {α β : Type} (f : α → Sem β) : ∀ (l : List α) (vs : List β), (∀ (i : Nat) (a : α), l[i]? = some a → ∃ b, vs[i]? = some b ∧ (f a).run P w = .ok b w) → vs.length = l.length →
    (l.mapM f).run P w = .ok vs w
  | [], vs, _, hl => by
    have : vs = [] := List.length_eq_zero_iff.1 (by simpa using hl)
    subst this; rfl
  | a :: l, vs, h, hl => by
    cases vs with
    | nil => simp at hl
    | cons v vs =>
      obtain ⟨b, hb, hr⟩ := h 0 a rfl
      simp at hb; subst hb
      have ih := mapM_run f l vs (fun i a ha => h (i + 1) a (by simpa using ha)) (by simpa using hl)
      rw [List.mapM_cons, Sem.run_bind, hr]
      simp only [Result.andThen_ok, Sem.run_bind, ih, Sem.run_pure]
def resF (tmps : Array Value) : ResultVar → Sem Value
  | .tmp t => pure (tmps.getD t undef)
  | .cell p t => do loadVar t (← asAddr (tmps.getD p undef))
theorem results_eq (fn : Func) (tmps : Array Value) : results fn tmps = (fn.results.mapM (resF tmps) >>= fun vs => pure (if h : vs.size = 1 then vs[0] else .tuple vs)) := by
  unfold results
  congr 1
section
variable {P : Program} {F : Frag} {r : Loc} {D : Nat → Prop} {H : Hf} {E : Ef} {a : Act} {w : World}
theorem resultsT_spec (he : EnvR F r E a) (hi : EnvIn D E) (hs : Sees F r D H w) : ∀ (l : List ResultVar) (ps : List Part), (resultsT P H E l).run = some ps →
    ∃ vs, partsRep F r ps vs ∧ (∀ x ∈ ps, x.inn D) ∧ vs.length = l.length ∧ ∀ (i : Nat) (x : ResultVar), l[i]? = some x → ∃ b, vs[i]? = some b ∧ (resF a.tmps x).run P w = .ok b w
  | [], ps, h => by
    simp only [resultsT, Tree.run, Option.some.injEq] at h; subst h
    exact ⟨[], trivial, (fun x hx => by cases hx), rfl, fun i x hx => by simp at hx⟩
  | .tmp t :: l, ps, h => by
    simp only [resultsT] at h
    split at h
    · rename_i x hx
      obtain ⟨q, hq, h⟩ := Tree.run_bind_some h
      simp only [Tree.run, Option.some.injEq] at h; subst h
      obtain ⟨vs, h1, h2, h3, h4⟩ := resultsT_spec he hi hs l q hq
      obtain ⟨v, g1, g2⟩ := he t _ hx
      refine ⟨v :: vs, ⟨g2, h1⟩, fun y hy => ?_, by simp [h3], fun i y hy => ?_⟩
      · rcases List.mem_cons.1 hy with rfl | hy
        · exact hi t _ hx
        · exact h2 y hy
      · cases i with
        | zero =>
          simp at hy; subst hy
          exact ⟨v, rfl, by simp [resF, g1]⟩
        | succ i => simpa using h4 i y (by simpa using hy)
    · cases h
  | .cell p t :: l, ps, h => by
    simp only [resultsT] at h
    split at h
    · rename_i j off hp
      obtain ⟨x, hx, h⟩ := Tree.run_bind_some h
      obtain ⟨q, hq, h⟩ := Tree.run_bind_some h
      simp only [Tree.run, Option.some.injEq] at h; subst h
      obtain ⟨vs, h1, h2, h3, h4⟩ := resultsT_spec he hi hs l q hq
      obtain ⟨u, g1, g2⟩ := he p _ hp
      obtain ⟨v, k1, k2, k3⟩ := loadT_run hs hx g2
      simp only [AV.rep, Part.rep, Cell.rep] at g2
      subst g2
      refine ⟨v :: vs, ⟨k2, h1⟩, fun y hy => ?_, by simp [h3], fun i y hy => ?_⟩
      · rcases List.mem_cons.1 hy with rfl | hy
        · exact k3
        · exact h2 y hy
      · cases i with
        | zero =>
          simp at hy; subst hy
          refine ⟨v, rfl, ?_⟩
          have g4 : a.tmps.getD p undef = .pointer (some ⟨(r j).b, (r j).o + off, none⟩) := by simp [g1]
          simp only [Instr.loadAt, Instr.sureAddr, Sem.run_bind, Sem.run_pure, Result.andThen_ok] at k1
          simp only [resF, g4]
          simpa [asAddr] using k1
        | succ i => simpa using h4 i y (by simpa using hy)
    · cases h
theorem mkRes_rep {ps : List Part} {vs : List Value} (h : partsRep F r ps vs) : (mkRes ps).rep F r (if h : vs.toArray.size = 1 then vs.toArray[0] else .tuple vs.toArray) := by
  have hl := partsRep_length h
  match ps, vs, h, hl with
  | [], [], h, _ => exact ⟨[], h, rfl⟩
  | [x], [v], h, _ => exact h.1
  | x :: y :: l, u :: v :: k, h, _ => exact ⟨_, h, by simp⟩
theorem mkRes_inn {ps : List Part} (h : ∀ x ∈ ps, x.inn D) : (mkRes ps).inn D := by
  match ps, h with
  | [], h => exact h
  | [x], h => exact h x (by simp)
  | x :: y :: l, h => exact h
end
/-! ### A call -/
def argEnv : List AV → Nat → Env
  | [], _ => []
  | a :: l, k => (k, a) :: argEnv l (k + 1)
theorem argEnv_look : ∀ {l : List AV} {k i : Nat} {av : AV}, look (argEnv l k) i = some av → k ≤ i ∧ l[i - k]? = some av
  | [], _, _, _, h => by cases h
  | a :: l, k, i, av, h => by
    simp only [argEnv] at h
    rw [look_cons] at h
    split at h
    · rename_i e; subst e; exact ⟨Nat.le_refl _, by simpa using h⟩
    · obtain ⟨h1, h2⟩ := argEnv_look h
      refine ⟨by omega, ?_⟩
      rw [show i - k = (i - (k + 1)) + 1 by omega]
      simpa using h2
def numOb : List Ob → Nat → Hp
  | [], _ => []
  | ob :: l, k => (k, ob) :: numOb l (k + 1)
theorem numOb_get : ∀ (l : List Ob) (k j : Nat), getH (numOb l k) j = if k ≤ j then l[j - k]? else none
  | [], k, j => by simp [numOb, getH_nil]
  | ob :: l, k, j => by
    simp only [numOb, getH_cons, bif_beq]
    rw [numOb_get l (k + 1) j]
    by_cases h : k = j
    · subst h; simp
    · rw [if_neg h]
      by_cases h' : k ≤ j
      · rw [if_pos h', if_pos (by omega), show j - k = (j - (k + 1)) + 1 by omega, List.getElem?_cons_succ]
      · rw [if_neg h', if_neg (by omega)]
theorem numOb_nth (l : List Ob) : getH (numOb l 0) = nthH l := by
  funext j
  rw [numOb_get]
  simp [nthH, nth_eq]
def obsOf : Hp → Nat → Option (List Ob)
  | [], _ => some []
  | (k, ob) :: l, i => bif Nat.beq k i then match obsOf l (i + 1) with
    | some r => some (ob :: r)
    | none => none
  else none
theorem obsOf_eq : ∀ {hp : Hp} {i : Nat} {l : List Ob}, obsOf hp i = some l → hp = numOb l i
  | [], _, l, h => by injection h with h; subst h; rfl
  | (k, ob) :: r, i, l, h => by
    simp only [obsOf] at h
    cases hb : Nat.beq k i with
    | false => rw [hb] at h; cases h
    | true =>
      rw [hb] at h
      simp only [cond_true] at h
      split at h
      · rename_i q hq
        injection h with h; subst h
        rw [numOb, ← obsOf_eq hq, Nat.eq_of_beq_eq_true hb]
      · cases h
def partsEnv : List Part → Nat → Env
  | [], _ => []
  | x :: l, k => (k, .p x) :: partsEnv l (k + 1)
def envParts : Env → Nat → Option (List Part)
  | [], _ => some []
  | (k, .p x) :: l, i => bif Nat.beq k i then match envParts l (i + 1) with
    | some r => some (x :: r)
    | none => none
  else none
  | _, _ => none
theorem partsEnv_look {F : Frag} {r : Loc} : ∀ {ps : List Part} {vs : List Value} {k i : Nat} {av : AV}, partsRep F r ps vs → look (partsEnv ps k) i = some av → k ≤ i ∧ ∃ x v, av = .p x ∧ x ∈ ps ∧ vs[i - k]? = some v ∧ x.rep F r v
  | [], _, _, _, _, _, h => by cases h
  | _ :: _, [], _, _, _, hr, _ => hr.elim
  | x :: l, v :: vs, k, i, av, hr, h => by
    simp only [partsEnv] at h
    rw [look_cons] at h
    split at h
    · rename_i e
      subst e
      injection h with h
      exact ⟨Nat.le_refl _, x, v, h.symm, List.mem_cons_self, by simp, hr.1⟩
    · obtain ⟨h1, y, u, h2, h3, h4, h5⟩ := partsEnv_look hr.2 h
      refine ⟨by omega, y, u, h2, List.mem_cons_of_mem _ h3, ?_, h5⟩
      rw [show i - k = (i - (k + 1)) + 1 by omega, List.getElem?_cons_succ]; exact h4
theorem envParts_rep {F : Frag} {r : Loc} {D : Nat → Prop} : ∀ {env : Env} {k : Nat} {ps : List Part} {vs : List Value}, envParts env k = some ps → ps.length = vs.length →
    (∀ i av, k ≤ i → look env i = some av → av.inn D ∧ ∃ v, vs[i - k]? = some v ∧ av.rep F r v) → partsRep F r ps vs ∧ ∀ x ∈ ps, x.inn D
  | [], _, ps, vs, h, hl, _ => by
    injection h with h; subst h
    cases vs with
    | nil => exact ⟨trivial, fun x hx => by cases hx⟩
    | cons => cases hl
  | (j, .t y) :: l, k, ps, vs, h, _, _ => by cases h
  | (j, .p x) :: l, k, ps, vs, h, hl, hr => by
    simp only [envParts] at h
    cases hb : Nat.beq j k with
    | false => rw [hb] at h; cases h
    | true =>
      rw [hb] at h
      have hb := Nat.eq_of_beq_eq_true hb
      subst hb
      simp only [cond_true] at h
      split at h
      · rename_i q hq
        injection h with h; subst h
        cases vs with
        | nil => cases hl
        | cons v vs =>
          obtain ⟨g1, u, g2, g3⟩ := hr j (.p x) (Nat.le_refl _) (by rw [look_cons, if_pos rfl])
          simp at g2; subst g2
          obtain ⟨k1, k2⟩ := envParts_rep (D := D) (vs := vs) hq (by simpa using hl) (fun i av hi hk => by
            obtain ⟨m1, v', m2, m3⟩ := hr i av (by omega) (by rw [look_cons, if_neg (by omega)]; exact hk)
            refine ⟨m1, v', ?_, m3⟩
            rw [show i - j = (i - (j + 1)) + 1 by omega, List.getElem?_cons_succ] at m2; exact m2)
          refine ⟨⟨g3, k1⟩, fun y hy => ?_⟩
          rcases List.mem_cons.1 hy with rfl | hy
          · exact g1
          · exact k2 y hy
      · cases h
def outT (m : Nat) (rc : List (Nat × Tys)) (ps : List Part) (st : St) : Tree (AV × List Ob) := (hsT rc ⟨partsEnv ps 0, st.hp, st.nx⟩).bind fun st0 => match canon m rc (downTo ps.length).reverse st0 with
  | some st' => match envParts st'.env 0, obsOf st'.hp 0 with
    | some ps', some H' => bif Nat.beq ps'.length ps.length && Nat.beq H'.length st'.nx then .ret (mkRes ps', H') else .fail
    | _, _ => .fail
  | none => .fail
def retT (x : AV × List Ob) : Tree (AV × List Ob) := match isPan x.1 with
  | none => .ret x
  | some _ => .fail
def pansT (x : AV × List Ob) : Tree (AV × List Ob) := match x.1 with
  | .p q => .ret (panA q, x.2)
  | .t _ => .fail
def evalFnL (P : Program) (T : Tab) (fuel : Nat) (L : LT) (fn : Func) (c : Code) (rc : List (Nat × Tys)) (args : List AV) (H : List Ob) : Tree (AV × List Ob) :=
  bif Nat.ble args.length fn.ntmps then
    (evalCode P T fn.ntmps H.length fuel L c false [] ⟨argEnv args 0, numOb H 0, H.length⟩).bind fun x => match x.1 with
      | .exit _ => .fail
      | .normal => (resultsT P (getH x.2.hp) (look x.2.env) fn.results.toList).bind fun ps => (outT H.length rc ps x.2).bind retT
      | .ret => (resultsT P (getH x.2.hp) (look x.2.env) fn.results.toList).bind fun ps => (outT H.length rc ps x.2).bind retT
      | .pan q => (outT H.length [] [q] x.2).bind pansT
  else .fail
def noL : LT := fun _ => none
theorem noL_ok2 (P : Program) (T : Tab) (N m fuel : Nat) (L : LT) (c0 : Code) : LOk2 P T N m fuel L noL c0 := fun _ _ h => by cases h
theorem noL_ok (P : Program) (T : Tab) (N m fuel : Nat) (c0 : Code) : LOk P T N m fuel noL c0 := fun _ _ h => by cases h
theorem outT_spec (P : Program) {ds : List Deferred} {N : Nat} {w0 : World} {S : Nat → Nat → Prop} {R0 : Frag} {m : Nat} {r0 : Loc} {st : St} {F : Frag} {r : Loc} {a : Act} {w : World} (hc : Conc ds N w0 S R0 m r0 st F r a w) {rc : List (Nat × Tys)} {ps : List Part} {vs : List Value}
    (hp : partsRep F r ps vs) (hi : ∀ x ∈ ps, x.inn fun j => j < st.nx) {v : AV} {H' : List Ob} (h : (outT m rc ps st).run = some (v, H')) :
    ∃ r', Mem w0 S R0 (fun j => j < H'.length) (nthH H') F r' w ∧ v.rep F r' (if h : vs.toArray.size = 1 then vs.toArray[0] else .tuple vs.toArray) ∧ v.inn (fun j => j < H'.length) ∧ (∀ j, j < m → r' j = r0 j) ∧ m ≤ H'.length := by
  unfold outT at h
  obtain ⟨st0, h0, h⟩ := Tree.run_bind_some h
  split at h
  · rename_i st' hcan
    split at h
    · rename_i ps' H1 h1 h2
      cases hb : (Nat.beq ps'.length ps.length && Nat.beq H1.length st'.nx) with
      | false => rw [hb] at h; cases h
      | true =>
        rw [hb] at h
        have h := Option.some.inj h
        simp only [Prod.mk.injEq] at h
        obtain ⟨rfl, rfl⟩ := h
        simp only [Bool.and_eq_true] at hb
        have hl := Nat.eq_of_beq_eq_true hb.1
        have hn := Nat.eq_of_beq_eq_true hb.2
        have hvl := partsRep_length hp
        have hc1 : Conc [] vs.length w0 S R0 m r0 ⟨partsEnv ps 0, st.hp, st.nx⟩ F r ⟨vs.toArray, []⟩ w := by
          refine ⟨rfl, by simp, fun k av hk => ?_, fun k av hk => ?_, hc.mem, hc.par, hc.mle⟩
          · obtain ⟨_, x, u, rfl, _, g2, g3⟩ := partsEnv_look hp hk
            exact ⟨u, by simpa using g2, g3⟩
          · obtain ⟨_, x, u, rfl, g1, _⟩ := partsEnv_look hp hk
            exact hi x g1
        obtain ⟨r1, hc3⟩ := hsT_conc P hc1 h0
        obtain ⟨r', hc2⟩ := hc3.canon hcan
        have hget : getH st'.hp = nthH H1 := by rw [obsOf_eq h2, numOb_nth]
        obtain ⟨k1, k2⟩ := envParts_rep (F := F) (r := r') (D := fun j => j < st'.nx) (vs := vs) h1 (by omega) (fun i av _ hk => by
          obtain ⟨u, g1, g2⟩ := hc2.env i av hk
          exact ⟨hc2.inn i av hk, u, by simpa using g1, g2⟩)
        refine ⟨r', ?_, mkRes_rep k1, ?_, hc2.par, ?_⟩
        · rw [hn, ← hget]; exact hc2.mem
        · rw [hn]; exact mkRes_inn k2
        · rw [hn]; exact hc2.mle
    · cases h
  · cases h
theorem calls_of_evalL {K : Know} {P : Program} {T : Tab} (hT : TOk K P T) (hm : P.follows .mixedOrders = true) {f : FuncId} {fn : Func} {c : Code} (hf : P.funcs[f]? = some fn) (hb : fn.body = some c) {fuel : Nat} {L : LT} {rc : List (Nat × Tys)}
    {args : List AV} {H H' : List Ob} {v : AV} (hL : LOk P T fn.ntmps H.length fuel L c) (he : (evalFnL P T fuel L fn c rc args H).run = some (v, H')) {F : Frag} {r : Loc} {w : World} {us : List Value} (hk : K.ok F) (hpre : Pre F r H w) (ha : avsRep F r args us) (hi : ∀ a ∈ args, a.inn fun j => j < H.length) :
    Calls P f us.toArray w (Post F r H w v H') := by
  unfold evalFnL at he
  cases hble : Nat.ble args.length fn.ntmps with
  | false => rw [hble] at he; cases he
  | true =>
    rw [hble] at he
    simp only [cond_true] at he
    have hle : args.length ≤ fn.ntmps := Nat.le_of_ble_eq_true hble
    have hal := avsRep_length ha
    obtain ⟨⟨ex, st⟩, h1, h2⟩ := Tree.run_bind_some he
    refine calls_of_wp hf hb ?_
    let a0 : Act := { tmps := us.toArray ++ Array.replicate (fn.ntmps - us.toArray.size) undef, defers := [] }
    have hget : ∀ (as : List AV) (vs : List Value) (i : Nat) (av : AV), avsRep F r as vs → as[i]? = some av → ∃ v, vs[i]? = some v ∧ av.rep F r v := by
      intro as
      induction as with
      | nil => intro vs i av _ hi; simp at hi
      | cons x l ih =>
        intro vs i av hr hi
        cases vs with
        | nil => exact hr.elim
        | cons u vs =>
          cases i with
          | zero => simp at hi; subst hi; exact ⟨u, rfl, hr.1⟩
          | succ i => simpa using ih vs i av hr.2 (by simpa using hi)
    have hc : Conc [] fn.ntmps w (OwnL (nthH H) r) F H.length r ⟨argEnv args 0, numOb H 0, H.length⟩ F r a0 w := by
      refine ⟨rfl, by simp [a0]; omega, fun k av hk => ?_, fun k av hk => ?_, ?_, fun _ _ => rfl, Nat.le_refl _⟩
      · obtain ⟨_, h3⟩ := argEnv_look hk
        simp only [Nat.sub_zero] at h3
        obtain ⟨u, g1, g2⟩ := hget args us k av ha h3
        have hk' : k < us.length := (List.getElem?_eq_some_iff.1 g1).1
        refine ⟨u, ?_, g2⟩
        simp only [a0]
        rw [Array.getElem?_append_left (by simpa using hk')]
        simpa using g1
      · obtain ⟨_, h3⟩ := argEnv_look hk
        exact hi av (List.mem_of_getElem? h3)
      · rw [numOb_nth]; exact hpre
    refine wp_mono (code_wp hT hk hm hL c [] rfl false _ st ex F r a0 w h1 hc) ?_
    intro e a1 w1 hpc
    have main : ∀ F1 r1, Conc [] fn.ntmps w (OwnL (nthH H) r) F H.length r st F1 r1 a1 w1 → ((resultsT P (getH st.hp) (look st.env) fn.results.toList).bind fun ps => (outT H.length rc ps st).bind retT).run = some (v, H') →
        a1.defers = [] ∧ ∃ u, (results fn a1.tmps).run P w1 = .ok u w1 ∧ Post F r H w v H' (.returned u) w1 := by
      intro F1 r1 hc1 hr
      obtain ⟨ps, h3, h4⟩ := Tree.run_bind_some hr
      obtain ⟨⟨v0, H0⟩, h6, h5⟩ := Tree.run_bind_some h4
      have hnp : isPan v0 = none ∧ v0 = v ∧ H0 = H' := by
        unfold retT at h5
        simp only at h5
        split at h5
        · rename_i hn
          simp only [Tree.run, Option.some.injEq, Prod.mk.injEq] at h5
          exact ⟨hn, h5.1, h5.2⟩
        · cases h5
      obtain ⟨hnp, rfl, rfl⟩ := hnp
      obtain ⟨vs, g1, g2, g3, g4⟩ := resultsT_spec (P := P) hc1.env hc1.inn hc1.mem.sees _ _ h3
      obtain ⟨r', k1, k2, k3, k4, k5⟩ := outT_spec P hc1 g1 g2 h6
      refine ⟨hc1.defers, _, ?_, _, F1, r', .inl ⟨hnp, rfl⟩, k1, k2, k3, k4, k5⟩
      have hmm := mapM_run (P := P) (w := w1) _ fn.results.toList vs g4 g3
      rw [results_eq, Array.mapM_eq_mapM_toList, Sem.run_bind, Sem.run_map, hmm]
      simp only [Result.andThen_ok, Sem.run_pure]
    cases ex with
    | exit id => cases h2
    | normal => obtain ⟨rfl, F1, r1, hc1⟩ := hpc; exact main F1 r1 hc1 h2
    | ret => obtain ⟨rfl, F1, r1, hc1⟩ := hpc; exact main F1 r1 hc1 h2
    | pan q =>
      obtain ⟨F1, r1, p, hc1, g1, g2, rfl⟩ := hpc
      obtain ⟨⟨v0, H0⟩, h4, h5⟩ := Tree.run_bind_some h2
      obtain ⟨r', k1, k2, k3, k4, k5⟩ := outT_spec (ps := [q]) (vs := [p]) P hc1 ⟨g1, trivial⟩ (fun x hx => by rcases List.mem_singleton.1 hx with rfl; exact g2) h4
      unfold pansT at h5
      simp only at h5
      split at h5
      · rename_i q'
        simp only [Tree.run, Option.some.injEq, Prod.mk.injEq] at h5
        obtain ⟨rfl, rfl⟩ := h5
        exact ⟨hc1.defers, panV p, F1, r', .inr ⟨q', p, isPan_panA q', rfl, rfl⟩, k1, panA_rep' k2, panA_inn.2 k3, k4, k5⟩
      · cases h5
theorem summ_of_evalL {K : Know} {P : Program} {T : Tab} (hT : TOk K P T) (hm : P.follows .mixedOrders = true) {f : FuncId} {fn : Func} {c : Code} (hf : P.funcs[f]? = some fn)
    (hn : (fn.name == "runtime.NumGoroutine") = false) (hb : fn.body = some c) (fuel : Nat) {s : Summ} (rc : List (Nat × Tys))
    (h : ∀ args H v H', (s.g args H).run = some (v, H') → s.ck args H = true → ∃ L, LOk P T fn.ntmps H.length fuel L c ∧ (evalFnL P T fuel L fn c rc args H).run = some (v, H')) : SummOk K P f s :=
  .inr ⟨⟨fn, hf, hn, by rw [hb]; rfl⟩, fun args H H' v hg hck F r w us hk hpre ha hi => by
    obtain ⟨L, hL, he⟩ := h args H v H' hg hck
    exact calls_of_evalL hT hm hf hb hL he hk hpre ha hi⟩
theorem summ_of_eval {K : Know} {P : Program} {T : Tab} (hT : TOk K P T) (hm : P.follows .mixedOrders = true) {f : FuncId} {fn : Func} {c : Code} (hf : P.funcs[f]? = some fn)
    (hn : (fn.name == "runtime.NumGoroutine") = false) (hb : fn.body = some c) (fuel : Nat) {s : Summ} (rc : List (Nat × Tys))
    (h : ∀ args H v H', (s.g args H).run = some (v, H') → s.ck args H = true → (evalFnL P T fuel noL fn c rc args H).run = some (v, H')) : SummOk K P f s :=
  summ_of_evalL hT hm hf hn hb fuel rc fun args H v H' hg hck => ⟨noL, noL_ok _ _ _ _ _ _, h args H v H' hg hck⟩
end Go.Sz
