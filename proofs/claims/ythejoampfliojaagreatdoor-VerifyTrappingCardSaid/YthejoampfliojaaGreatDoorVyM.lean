/-
  The verifier: contracts that know some answers. An answer that was once found out is told again where arguments and memory are the same.
-/
import Derived.Test.YthejoampfliojaaGreatDoorVyS
noncomputable section
namespace Go.Vy
open Go Go.Sy Go.Sz
set_option linter.unusedVariables false
set_option linter.unusedSimpArgs false

/-- An answer: arguments, memory, what is told, memory behind. -/
structure Row where
  as : List AV
  hp : List Ob
  v : AV
  hp' : List Ob

def knowG (g : List AV → List Ob → Tree (AV × List Ob)) : List Row → List AV → List Ob → Tree (AV × List Ob)
  | [], as, H => g as H
  | r :: l, as, H => Bool.rec (motive := fun _ => Tree (AV × List Ob)) (knowG g l as H) (.ret (r.v, r.hp')) (eqL eqAV as r.as && eqL eqOb H r.hp)
def knowS (s : Summ) (rows : List Row) : Summ := ⟨s.modes, s.esc, knowG s.g rows, s.ck⟩
def Row.ok (s : Summ) (r : Row) : Prop := (s.g r.as r.hp).run = some (r.v, r.hp')
def RowsOk (s : Summ) (l : List Row) : Prop := ∀ r ∈ l, r.ok s
theorem rows_nil (s : Summ) : RowsOk s [] := fun _ h => by cases h
theorem rows_cons {s : Summ} {r : Row} {l : List Row} (h : r.ok s) (hl : RowsOk s l) : RowsOk s (r :: l) := fun x hx => by
  rcases List.mem_cons.1 hx with rfl | hx
  · exact h
  · exact hl x hx
theorem knowG_run {s : Summ} : ∀ {l : List Row} (hl : RowsOk s l) {as : List AV} {H : List Ob} {x : AV × List Ob}, (knowG s.g l as H).run = some x → (s.g as H).run = some x
  | [], _, _, _, _, h => h
  | r :: l, hl, as, H, x, h => by
    have h : (Bool.rec (motive := fun _ => Tree (AV × List Ob)) (knowG s.g l as H) (.ret (r.v, r.hp')) (eqL eqAV as r.as && eqL eqOb H r.hp) : Tree (AV × List Ob)).run = some x := h
    cases hb : (eqL eqAV as r.as && eqL eqOb H r.hp) with
    | false =>
      rw [hb] at h
      exact knowG_run (fun y hy => hl y (List.mem_cons_of_mem _ hy)) h
    | true =>
      rw [hb] at h
      have h : (Tree.ret (r.v, r.hp') : Tree (AV × List Ob)).run = some x := h
      simp only [Tree.run, Option.some.injEq] at h
      subst h
      rw [Bool.and_eq_true] at hb
      rw [eqL_eq (fun _ _ => eqAV_eq) hb.1, eqL_eq (fun _ _ => eqOb_eq) hb.2]
      exact hl r List.mem_cons_self
theorem know_ok {K : Know} {P : Program} {f : FuncId} {s : Summ} (h : SummOk K P f s) {l : List Row} (hl : RowsOk s l) : SummOk K P f (knowS s l) := by
  rcases h with h | ⟨h1, h⟩
  · exact .inl fun args H H' v hg hck => h args H H' v (knowG_run hl hg) hck
  · exact .inr ⟨h1, fun args H H' v hg hck => h args H H' v (knowG_run hl hg) hck⟩
/-! ### Code by its parts -/
section
variable {P : Program} {T : Tab} {N m fuel : Nat}
theorem eval_seq {x y : Code} {b : Bool} {p : List Nat} {st st1 : St} {r : Ex × St} (h1 : (evalCode P T N m fuel noL x false (0 :: p) st).run = some (.normal, st1)) (h2 : (evalCode P T N m fuel noL y false (1 :: p) st1).run = some r) :
    (evalCode P T N m fuel noL (.seq x y) b p st).run = some r := by
  have e : evalCode P T N m fuel noL (.seq x y) b p st = (evalCode P T N m fuel noL x false (0 :: p) st).bind fun r => match r.1 with
    | .normal => evalCode P T N m fuel noL y false (1 :: p) r.2
    | .exit id => .ret (.exit id, r.2)
    | .ret => .ret (.ret, r.2)
    | .pan q => .ret (.pan q, r.2) := by cases b <;> rfl
  rw [e, Tree.run_bind, h1]
  exact h2
theorem eval_draw {id : Nat} {ops : Array Oper} {b : Bool} {p : List Nat} {st st1 : St} (h : (drawT P T N ops st).run = some (none, st1)) : (evalCode P T N m fuel noL (.region id ops true) b p st).run = some (.normal, st1) := by
  have e : evalCode P T N m fuel noL (.region id ops true) b p st = ((drawT P T N ops st).bind fun r => match r.1 with
    | none => .ret (.normal, r.2)
    | some q => .ret (.pan q, r.2)).flatB T.cl := by cases b <;> rfl
  rw [e, Tree.flatB_run, Tree.run_bind, h]
  rfl
end

/-- One operation of a region that is drawn. -/
def stepEv (P : Program) (T : Tab) (N : Nat) (ops : Array Oper) (E0 : Ef) (H0 : Hf) (nx0 : Nat) (o : Oper) (acc : List Ev) : Tree Ev :=
  bif allLt acc.length (direct o) && (dstOk N o.dst && o.guard.isNone) then
    (opT P T (seenH H0 (addEv ops E0 H0 nx0 o acc skipEff).js acc) (seenE E0 (o.looksAt ops) acc) (nxt nx0 acc) o).bind fun eff =>
      bif (panE eff).isNone && (effOk o.dst eff && apartD (direct o) (anOf (direct o) acc []) (addEv ops E0 H0 nx0 o acc eff) acc) then .ret (addEv ops E0 H0 nx0 o acc eff) else .fail
  else .fail
theorem evsT_step {P : Program} {T : Tab} {N : Nat} {ops : Array Oper} {E0 : Ef} {H0 : Hf} {nx0 : Nat} {o : Oper} {l : List Oper} {acc : List Ev} {ev : Ev} {y : List Ev × Option PanR}
    (h1 : (stepEv P T N ops E0 H0 nx0 o acc).run = some ev) (h2 : (evsT P T N ops E0 H0 nx0 l (ev :: acc)).run = some y) : (evsT P T N ops E0 H0 nx0 (o :: l) acc).run = some y := by
  unfold stepEv at h1
  cases hb : (allLt acc.length (direct o) && (dstOk N o.dst && o.guard.isNone)) with
  | false => rw [hb] at h1; cases h1
  | true =>
    rw [hb] at h1
    simp only [cond_true] at h1
    simp only [Bool.and_eq_true] at hb
    obtain ⟨q1, q2, q3⟩ := hb
    have hg : o.guard = none := by simpa using q3
    obtain ⟨eff, he, h3⟩ := Tree.run_bind_some h1
    cases hb2 : ((panE eff).isNone && (effOk o.dst eff && apartD (direct o) (anOf (direct o) acc []) (addEv ops E0 H0 nx0 o acc eff) acc)) with
    | false => rw [hb2] at h3; cases h3
    | true =>
      rw [hb2] at h3
      simp only [cond_true, Tree.run, Option.some.injEq] at h3
      subst h3
      simp only [Bool.and_eq_true] at hb2
      obtain ⟨k1, k2, k3⟩ := hb2
      have hp : panE eff = none := by simpa using k1
      simp only [evsT, q1, q2, Bool.and_self, cond_true]
      unfold guardT
      rw [hg]
      simp only [noteV]
      rw [Tree.run_bind, he]
      simp only [Option.bind_some, hp, k2, k3, Bool.and_self, cond_true]
      exact h2
end Go.Vy
