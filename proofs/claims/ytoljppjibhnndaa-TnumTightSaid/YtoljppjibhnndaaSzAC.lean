/-
  A symbolic machine for one call, with rows of any length: code.
-/
import Derived.Test.YtoljppjibhnndaaSzAB
namespace Go.Sz
open Go Go.RowKit Go.Sy
set_option linter.unusedVariables false
set_option linter.unusedSimpArgs false
set_option linter.constructorNameAsVariable false

inductive Ex where
  | normal
  | exit (id : Nat)
  | ret

def Ex.exit' : Ex → Exit
  | .normal => .normal
  | .exit id => .exit id
  | .ret => .ret

/-- What is known of a part of the code, by its place: from what the state at its head holds to what must hold there, how it ends and the state behind it. -/
structure Orc where
  sh : Shape
  coe : List (Nat × Tys)
  k2 : List Nat
  coe2 : List (Nat × Tys)
  o : sh.den → Tree (Ex × St)

def keysSh : List (Nat × ShA) → List Nat
  | [] => []
  | s :: l => s.1 :: keysSh l

abbrev LT := List Nat → Option Orc

def useO (m : Nat) (c : Orc) (st : St) : Tree (Ex × St) := match canon m c.coe (keysSh c.sh.env) st with
  | some st1 => match c.sh.dec st1 with
    | some x => c.o x
    | none => .fail
  | none => .fail

def hook (m : Nat) (b : Bool) (L : LT) (p : List Nat) (st : St) (t : Tree (Ex × St)) : Tree (Ex × St) := bif b then t else match L p with
  | none => t
  | some c => useO m c st

def keysE : Env → List Nat → List Nat
  | [], acc => acc
  | (k, _) :: r, acc => bif memN k acc then keysE r acc else keysE r (k :: acc)

def loopN (f : St → Tree (Ex × St)) (ks : List Nat) : Nat → St → Tree (Ex × St)
  | 0, _ => .fail
  | n + 1, st => (f ⟨restrE (look st.env) ks, st.hp, st.nx⟩).bind fun x => match x.1 with
    | .normal => loopN f ks n x.2
    | .exit id => .ret (.exit id, x.2)
    | .ret => .ret (.ret, x.2)

/-- One turn of a loop of which something is known. -/
def turnT (m : Nat) (c : Orc) (f : St → Tree (Ex × St)) (st : St) : Tree (Ex × St) := (f st).bind fun x => match x.1 with
  | .normal => match canon m c.coe (keysSh c.sh.env) x.2 with
    | some st' => .ret (.normal, st')
    | none => .fail
  | .exit id => match canon m c.coe2 c.k2 x.2 with
    | some st' => .ret (.exit id, st')
    | none => .fail
  | .ret => match canon m c.coe2 c.k2 x.2 with
    | some st' => .ret (.ret, st')
    | none => .fail
def loopC (t : St → Tree (Ex × St)) : Nat → St → Tree (Ex × St)
  | 0, _ => .fail
  | n + 1, st => (t st).bind fun x => match x.1 with
    | .normal => loopC t n x.2
    | .exit id => .ret (.exit id, x.2)
    | .ret => .ret (.ret, x.2)
/-- What stands behind other code of which something is known. -/
def endT (m : Nat) (c : Orc) (f : St → Tree (Ex × St)) (st : St) : Tree (Ex × St) := (f st).bind fun x => match canon m c.coe2 c.k2 x.2 with
  | some st' => .ret (x.1, st')
  | none => .fail

def evalCode (P : Program) (T : FuncId → Option Summ) (N m fuel : Nat) (L : LT) : Code → Bool → List Nat → St → Tree (Ex × St)
  | .skip, _, _ => fun st => .ret (.normal, st)
  | .label _, _, _ => fun st => .ret (.normal, st)
  | .region _ ops draw, b, p => fun st => hook m b L p st ((bif draw then drawT P T N ops st else seqT P T N ops ops.toList st).bind fun st' => .ret (.normal, st'))
  | .seq x y, b, p => fun st => hook m b L p st ((evalCode P T N m fuel L x false (0 :: p) st).bind fun r => match r.1 with
    | .normal => evalCode P T N m fuel L y false (1 :: p) r.2
    | .exit id => .ret (.exit id, r.2)
    | .ret => .ret (.ret, r.2))
  | .cond c x y, b, p => fun st => hook m b L p st (match evalO (look st.env) c with
    | some (.p (.one (.v (.bool b)))) => .ite b (evalCode P T N m fuel L x false (0 :: p) st) (evalCode P T N m fuel L y false (1 :: p) st)
    | _ => .fail)
  | .block id x, b, p => fun st => hook m b L p st ((evalCode P T N m fuel L x false (0 :: p) st).bind fun r => match r.1 with
    | .normal => .ret (.normal, r.2)
    | .exit id' => bif Nat.beq id' id then .ret (.normal, r.2) else .ret (.exit id', r.2)
    | .ret => .ret (.ret, r.2))
  | .loop x, b, p => fun st => hook m b L p st (loopN (evalCode P T N m fuel L x false (0 :: p)) (keysE st.env []) fuel st)
  | .exit id, _, _ => fun st => .ret (.exit id, st)
  | .ret, _, _ => fun st => .ret (.ret, st)
  | .scope x, b, p => fun st => hook m b L p st (evalCode P T N m fuel L x false (0 :: p) st)
  | .rangeFunc .., _, _ => fun _ => .fail
  | .goto _, _, _ => fun _ => .fail
  | .refuse _, _, _ => fun _ => .fail

def subAt (c : Code) : List Nat → Option Code
  | [] => some c
  | i :: p => match subAt c p with
    | some (.seq x y) => bif Nat.beq i 0 then some x else some y
    | some (.cond _ x y) => bif Nat.beq i 0 then some x else some y
    | some (.block _ x) => some x
    | some (.loop x) => some x
    | some (.scope x) => some x
    | _ => none

/-- How the part at a place goes, by hand. -/
def partT (P : Program) (T : FuncId → Option Summ) (N m fuel : Nat) (L : LT) (c : Orc) (p : List Nat) (n : Nat) : Code → St → Tree (Ex × St)
  | .loop x => loopC (turnT m c (evalCode P T N m fuel L x false (0 :: p))) n
  | x => endT m c (evalCode P T N m fuel L x true p)

def LOk2 (P : Program) (T : FuncId → Option Summ) (N m fuel : Nat) (L L' : LT) (c0 : Code) : Prop := ∀ p c, L' p = some c → ∀ x, subAt c0 p = some x → ∀ d ex st', (c.o d).run = some (ex, st') →
  ∃ n, (partT P T N m fuel L c p n x (c.sh.enc d)).run = some (ex, st')
def LOk (P : Program) (T : FuncId → Option Summ) (N m fuel : Nat) (L : LT) (c0 : Code) : Prop := LOk2 P T N m fuel L L c0

section
variable {P : Program} {T : FuncId → Option Summ} {N : Nat} {w0 : World} {S : Nat → Nat → Prop} {R0 : Frag} {m : Nat} {r0 : Loc}

theorem useO_spec {c : Orc} {st : St} {y : Ex × St} (h : (useO m c st).run = some y) : ∃ x, canon m c.coe (keysSh c.sh.env) st = some (c.sh.enc x) ∧ (c.o x).run = some (y.1, y.2) := by
  unfold useO at h
  split at h
  · rename_i st1 h1
    split at h
    · rename_i x hx
      exact ⟨x, by rw [← Shape.dec_eq hx]; exact h1, h⟩
    · cases h
  · cases h

/-- The post of code that the machine has gone through. -/
def PostC (N : Nat) (w0 : World) (S : Nat → Nat → Prop) (R0 : Frag) (m : Nat) (r0 : Loc) (ex : Ex) (st : St) (e : Exit) (a : Act) (w : World) : Prop := e = ex.exit' ∧ ∃ F r, Conc N w0 S R0 m r0 st F r a w

def Goes (P : Program) (N : Nat) (w0 : World) (S : Nat → Nat → Prop) (R0 : Frag) (m : Nat) (r0 : Loc) (c : Code) (t : St → Tree (Ex × St)) : Prop :=
  ∀ (st st' : St) (ex : Ex) (F : Frag) (r : Loc) (a : Act) (w : World), (t st).run = some (ex, st') → Conc N w0 S R0 m r0 st F r a w → c.wp P (PostC N w0 S R0 m r0 ex st') a w

theorem Conc.restr {st : St} {F : Frag} {r : Loc} {a : Act} {w : World} (h : Conc N w0 S R0 m r0 st F r a w) (ks : List Nat) : Conc N w0 S R0 m r0 ⟨restrE (look st.env) ks, st.hp, st.nx⟩ F r a w :=
  ⟨h.defers, h.size, fun k av hk => h.env k av (restrE_look hk), fun k av hk => h.inn k av (restrE_look hk), h.mem, h.par, h.mle⟩

theorem loopN_goes {x : Code} {f : St → Tree (Ex × St)} (hf : Goes P N w0 S R0 m r0 x f) (ks : List Nat) : ∀ (n : Nat) (st st' : St) (ex : Ex) (F : Frag) (r : Loc) (a : Act) (w : World), (loopN f ks n st).run = some (ex, st') → Conc N w0 S R0 m r0 st F r a w →
    Code.rounds P x (PostC N w0 S R0 m r0 ex st') n a w := by
  intro n
  induction n with
  | zero => intro st st' ex F r a w h _; cases h
  | succ n ihn =>
    intro st st' ex F r a w h hc
    simp only [loopN] at h
    obtain ⟨⟨ex1, st1⟩, h1, h2⟩ := Tree.run_bind_some h
    rw [rounds_succ]
    refine wp_mono (hf _ st1 ex1 F r a w h1 (hc.restr ks)) ?_
    rintro e a1 w1 ⟨rfl, F1, r1, hc1⟩
    cases ex1 with
    | normal => exact ihn _ st' ex F1 r1 a1 w1 h2 hc1
    | exit id =>
      simp only [Tree.run, Option.some.injEq, Prod.mk.injEq] at h2
      obtain ⟨rfl, rfl⟩ := h2
      exact ⟨rfl, F1, r1, hc1⟩
    | ret =>
      simp only [Tree.run, Option.some.injEq, Prod.mk.injEq] at h2
      obtain ⟨rfl, rfl⟩ := h2
      exact ⟨rfl, F1, r1, hc1⟩

theorem turn_goes {x : Code} {f : St → Tree (Ex × St)} (hf : Goes P N w0 S R0 m r0 x f) (c : Orc) : Goes P N w0 S R0 m r0 x (turnT m c f) := by
  intro st st' ex F r a w h hc
  unfold turnT at h
  obtain ⟨⟨ex1, st1⟩, h1, h2⟩ := Tree.run_bind_some h
  refine wp_mono (hf _ st1 ex1 F r a w h1 hc) ?_
  rintro e a1 w1 ⟨rfl, F1, r1, hc1⟩
  cases ex1 <;> dsimp only at h2 <;> split at h2 <;> first | (cases h2; done) | skip
  all_goals
    rename_i st2 hcan
    simp only [Tree.run, Option.some.injEq, Prod.mk.injEq] at h2
    obtain ⟨rfl, rfl⟩ := h2
    obtain ⟨r2, hc2⟩ := hc1.canon hcan
    exact ⟨rfl, F1, r2, hc2⟩

theorem loopC_goes {x : Code} {t : St → Tree (Ex × St)} (hf : Goes P N w0 S R0 m r0 x t) : ∀ (n : Nat) (st st' : St) (ex : Ex) (F : Frag) (r : Loc) (a : Act) (w : World), (loopC t n st).run = some (ex, st') → Conc N w0 S R0 m r0 st F r a w →
    Code.rounds P x (PostC N w0 S R0 m r0 ex st') n a w := by
  intro n
  induction n with
  | zero => intro st st' ex F r a w h _; cases h
  | succ n ihn =>
    intro st st' ex F r a w h hc
    simp only [loopC] at h
    obtain ⟨⟨ex1, st1⟩, h1, h2⟩ := Tree.run_bind_some h
    rw [rounds_succ]
    refine wp_mono (hf _ st1 ex1 F r a w h1 hc) ?_
    rintro e a1 w1 ⟨rfl, F1, r1, hc1⟩
    cases ex1 with
    | normal => exact ihn _ st' ex F1 r1 a1 w1 h2 hc1
    | exit id =>
      simp only [Tree.run, Option.some.injEq, Prod.mk.injEq] at h2
      obtain ⟨rfl, rfl⟩ := h2
      exact ⟨rfl, F1, r1, hc1⟩
    | ret =>
      simp only [Tree.run, Option.some.injEq, Prod.mk.injEq] at h2
      obtain ⟨rfl, rfl⟩ := h2
      exact ⟨rfl, F1, r1, hc1⟩

theorem end_goes {x : Code} {f : St → Tree (Ex × St)} (hf : Goes P N w0 S R0 m r0 x f) (c : Orc) : Goes P N w0 S R0 m r0 x (endT m c f) := by
  intro st st' ex F r a w h hc
  unfold endT at h
  obtain ⟨⟨ex1, st1⟩, h1, h2⟩ := Tree.run_bind_some h
  refine wp_mono (hf _ st1 ex1 F r a w h1 hc) ?_
  rintro e a1 w1 ⟨rfl, F1, r1, hc1⟩
  split at h2
  · rename_i st2 hcan
    simp only [Tree.run, Option.some.injEq, Prod.mk.injEq] at h2
    obtain ⟨rfl, rfl⟩ := h2
    obtain ⟨r2, hc2⟩ := hc1.canon hcan
    exact ⟨rfl, F1, r2, hc2⟩
  · cases h2

theorem code_wp {K : Know} (hT : TOk K P T) (hk : K.ok R0) (hm : P.follows .mixedOrders = true) {fuel : Nat} {L : LT} {c0 : Code} (hL : LOk P T N m fuel L c0) : ∀ (c : Code) (p : List Nat), subAt c0 p = some c → ∀ b, Goes P N w0 S R0 m r0 c (evalCode P T N m fuel L c b p) := by
  -- from the raw way to the way that asks
  have ask : ∀ (c : Code) (p : List Nat) (t : St → Tree (Ex × St)), subAt c0 p = some c → (∀ st, evalCode P T N m fuel L c true p st = t st) → (∀ b st, evalCode P T N m fuel L c b p st = hook m b L p st (t st)) →
      (∀ x, c ≠ .loop x) → Goes P N w0 S R0 m r0 c t → ∀ b, Goes P N w0 S R0 m r0 c (evalCode P T N m fuel L c b p) := by
    intro c p t hp he ht hnl hg b st st' ex F r a w h hc
    rw [ht] at h
    unfold hook at h
    cases b with
    | true => exact hg st st' ex F r a w h hc
    | false =>
      simp only [cond_false] at h
      split at h
      · exact hg st st' ex F r a w h hc
      · rename_i oc hoc
        obtain ⟨x, h1, h2⟩ := useO_spec h
        obtain ⟨n, h3⟩ := hL p oc hoc c hp x ex st' h2
        obtain ⟨r1, hc1⟩ := hc.canon h1
        have e : partT P T N m fuel L oc p n c = endT m oc (evalCode P T N m fuel L c true p) := by
          cases c <;> first | rfl | exact absurd rfl (hnl _)
        rw [e] at h3
        have e2 : evalCode P T N m fuel L c true p = t := funext he
        rw [e2] at h3
        exact end_goes hg oc _ st' ex F r1 a w h3 hc1
  intro c
  induction c with
  | skip =>
    intro p hp b st st' ex F r a w h hc
    simp only [evalCode, Tree.run, Option.some.injEq, Prod.mk.injEq] at h
    obtain ⟨rfl, rfl⟩ := h
    exact wp_skip ⟨rfl, F, r, hc⟩
  | label l =>
    intro p hp b st st' ex F r a w h hc
    simp only [evalCode, Tree.run, Option.some.injEq, Prod.mk.injEq] at h
    obtain ⟨rfl, rfl⟩ := h
    exact wp_label ⟨rfl, F, r, hc⟩
  | region id ops draw =>
    intro p hp
    refine ask _ p (fun st => (bif draw then drawT P T N ops st else seqT P T N ops ops.toList st).bind fun st' => .ret (.normal, st')) hp (fun st => rfl) (fun b st => rfl) (fun x e => by cases e) ?_
    intro st st' ex F r a w h hc
    obtain ⟨st1, h1, h2⟩ := Tree.run_bind_some h
    simp only [Tree.run, Option.some.injEq, Prod.mk.injEq] at h2
    obtain ⟨rfl, rfl⟩ := h2
    have hQ : ∀ F' r' a' w', Conc N w0 S R0 m r0 st1 F' r' a' w' → PostC N w0 S R0 m r0 .normal st1 .normal a' w' := fun F' r' a' w' h => ⟨rfl, F', r', h⟩
    cases draw with
    | true => exact drawT_wp hT hk hm h1 hc hQ
    | false =>
      have := seqT_wp hT hk (ops := ops) hQ ops.toList [] st F r a w rfl h1 hc
      refine wp_region ?_
      rw [List.range_eq_range']
      simpa using this
  | seq x y ihx ihy =>
    intro p hp
    refine ask _ p (fun st => (evalCode P T N m fuel L x false (0 :: p) st).bind fun r => match r.1 with
      | .normal => evalCode P T N m fuel L y false (1 :: p) r.2
      | .exit id => .ret (.exit id, r.2)
      | .ret => .ret (.ret, r.2)) hp (fun st => rfl) (fun b st => rfl) (fun x e => by cases e) ?_
    intro st st' ex F r a w h hc
    obtain ⟨⟨ex1, st1⟩, h1, h2⟩ := Tree.run_bind_some h
    refine wp_seq (wp_mono (ihx (0 :: p) (by simp [subAt, hp]) false st st1 ex1 F r a w h1 hc) ?_)
    rintro e a1 w1 ⟨rfl, F1, r1, hc1⟩
    cases ex1 with
    | normal => exact ihy (1 :: p) (by simp only [subAt, hp]; rfl) false st1 st' ex F1 r1 a1 w1 h2 hc1
    | exit id =>
      simp only [Tree.run, Option.some.injEq, Prod.mk.injEq] at h2
      obtain ⟨rfl, rfl⟩ := h2
      exact ⟨rfl, F1, r1, hc1⟩
    | ret =>
      simp only [Tree.run, Option.some.injEq, Prod.mk.injEq] at h2
      obtain ⟨rfl, rfl⟩ := h2
      exact ⟨rfl, F1, r1, hc1⟩
  | cond c x y ihx ihy =>
    intro p hp
    refine ask _ p (fun st => match evalO (look st.env) c with
      | some (.p (.one (.v (.bool b)))) => .ite b (evalCode P T N m fuel L x false (0 :: p) st) (evalCode P T N m fuel L y false (1 :: p) st)
      | _ => .fail) hp (fun st => rfl) (fun b st => rfl) (fun x e => by cases e) ?_
    intro st st' ex F r a w h hc
    simp only at h
    split at h
    · rename_i b hb
      have hv := evalO_rep hc.env hb
      simp only [AV.rep, Part.rep, Cell.rep] at hv
      simp only [Tree.run] at h
      cases b with
      | true => exact wp_cond_true hv (ihx (0 :: p) (by simp [subAt, hp]) false st st' ex F r a w h hc)
      | false => exact wp_cond_false hv (ihy (1 :: p) (by simp only [subAt, hp]; rfl) false st st' ex F r a w h hc)
    · cases h
  | block id x ih =>
    intro p hp
    refine ask _ p (fun st => (evalCode P T N m fuel L x false (0 :: p) st).bind fun r => match r.1 with
      | .normal => .ret (.normal, r.2)
      | .exit id' => bif Nat.beq id' id then .ret (.normal, r.2) else .ret (.exit id', r.2)
      | .ret => .ret (.ret, r.2)) hp (fun st => rfl) (fun b st => rfl) (fun x e => by cases e) ?_
    intro st st' ex F r a w h hc
    obtain ⟨⟨ex1, st1⟩, h1, h2⟩ := Tree.run_bind_some h
    refine wp_block (wp_mono (ih (0 :: p) (by simp [subAt, hp]) false st st1 ex1 F r a w h1 hc) ?_)
    rintro e a1 w1 ⟨rfl, F1, r1, hc1⟩
    cases ex1 with
    | normal =>
      simp only [Tree.run, Option.some.injEq, Prod.mk.injEq] at h2
      obtain ⟨rfl, rfl⟩ := h2
      exact ⟨rfl, F1, r1, hc1⟩
    | ret =>
      simp only [Tree.run, Option.some.injEq, Prod.mk.injEq] at h2
      obtain ⟨rfl, rfl⟩ := h2
      exact ⟨rfl, F1, r1, hc1⟩
    | exit id' =>
      simp only [Ex.exit', Exit.inBlock] at h2 ⊢
      by_cases hid : id' = id
      · subst hid
        simp only [Nat.beq_refl, cond_true, Tree.run, Option.some.injEq, Prod.mk.injEq] at h2
        obtain ⟨rfl, rfl⟩ := h2
        rw [if_pos rfl]
        exact ⟨rfl, F1, r1, hc1⟩
      · have hb : Nat.beq id' id = false := by
          cases hb : Nat.beq id' id with
          | false => rfl
          | true => exact absurd (Nat.eq_of_beq_eq_true hb) hid
        simp only [hb, cond_false, Tree.run, Option.some.injEq, Prod.mk.injEq] at h2
        obtain ⟨rfl, rfl⟩ := h2
        rw [if_neg hid]
        exact ⟨rfl, F1, r1, hc1⟩
  | loop x ih =>
    intro p hp b st st' ex F r a w h hc
    have hsub : subAt c0 (0 :: p) = some x := by simp [subAt, hp]
    have hx := ih (0 :: p) hsub false
    have raw : (loopN (evalCode P T N m fuel L x false (0 :: p)) (keysE st.env []) fuel st).run = some (ex, st') → (Code.loop x).wp P (PostC N w0 S R0 m r0 ex st') a w := fun h => wp_loop_rounds fuel (loopN_goes hx _ fuel st st' ex F r a w h hc)
    simp only [evalCode, hook] at h
    cases b with
    | true => exact raw h
    | false =>
      simp only [cond_false] at h
      split at h
      · exact raw h
      · rename_i oc hoc
        obtain ⟨d, h1, h2⟩ := useO_spec h
        obtain ⟨n, h3⟩ := hL p oc hoc _ hp d ex st' h2
        obtain ⟨r1, hc1⟩ := hc.canon h1
        exact wp_loop_rounds n (loopC_goes (turn_goes hx oc) n _ st' ex F r1 a w h3 hc1)
  | exit id =>
    intro p hp b st st' ex F r a w h hc
    simp only [evalCode, Tree.run, Option.some.injEq, Prod.mk.injEq] at h
    obtain ⟨rfl, rfl⟩ := h
    exact wp_exit ⟨rfl, F, r, hc⟩
  | ret =>
    intro p hp b st st' ex F r a w h hc
    simp only [evalCode, Tree.run, Option.some.injEq, Prod.mk.injEq] at h
    obtain ⟨rfl, rfl⟩ := h
    exact wp_ret ⟨rfl, F, r, hc⟩
  | scope x ih =>
    intro p hp
    refine ask _ p (evalCode P T N m fuel L x false (0 :: p)) hp (fun st => rfl) (fun b st => rfl) (fun x e => by cases e) ?_
    intro st st' ex F r a w h hc
    refine wp_scope_straight (wp_mono (ih (0 :: p) (by simp [subAt, hp]) false st st' ex F r a w h hc) ?_)
    rintro e a1 w1 ⟨rfl, F1, r1, hc1⟩
    cases ex <;> exact ⟨rfl, F1, r1, hc1⟩
  | rangeFunc f ps x y _ _ => intro p hp b st st' ex F r a w h; cases h
  | goto l => intro p hp b st st' ex F r a w h; cases h
  | refuse s => intro p hp b st st' ex F r a w h; cases h
end
end Go.Sz
