/-
  The verifier: contracts that know some answers. An answer that was once found out is told again where arguments and memory are the same.
-/
import Derived.Test.YtfbldjaepenfpaaGreatDoorVyS
noncomputable section
namespace Go.Vy
open Go Go.Sy Go.Sz
set_option linter.unusedVariables false
set_option linter.unusedSimpArgs false
structure Row where
  as : List AV
  hp : List Ob
  v : AV
  hp' : List Ob
def matchR (r : Row) (as : List AV) (H : List Ob) : Option Pairs := match smL smAV as r.as [] with
  | some acc => smL smOb H r.hp acc
  | none => none
def knowG (g : List AV → List Ob → Tree (AV × List Ob)) : List Row → List AV → List Ob → Tree (AV × List Ob)
  | [], as, H => g as H
  | r :: l, as, H => match matchR r as H with
    | some acc => askT acc (.ret (r.v, r.hp'))
    | none => knowG g l as H
def knowS (s : Summ) (rows : List Row) : Summ := ⟨s.modes, s.esc, knowG s.g rows, s.ck⟩
def Row.ok (s : Summ) (r : Row) : Prop := (s.g r.as r.hp).run = some (r.v, r.hp')
def RowsOk (s : Summ) (l : List Row) : Prop := ∀ r ∈ l, r.ok s
theorem rows_nil (s : Summ) : RowsOk s [] := fun _ h => by cases h
theorem rows_cons {s : Summ} {r : Row} {l : List Row} (h : r.ok s) (hl : RowsOk s l) : RowsOk s (r :: l) := fun x hx => by
  rcases List.mem_cons.1 hx with rfl | hx
  · exact h
  · exact hl x hx
theorem matchR_ok {r : Row} {as : List AV} {H : List Ob} {acc : Pairs} (h : matchR r as H = some acc) (he : eqPp acc) : as = r.as ∧ H = r.hp := by
  unfold matchR at h
  split at h
  · rename_i a1 h1
    obtain ⟨e1, e2⟩ := smL_ok smOb_ok _ _ _ _ h he
    exact ⟨(smL_ok smAV_ok _ _ _ _ h1 e2).1, e1⟩
  · cases h
theorem knowG_run {s : Summ} : ∀ {l : List Row} (hl : RowsOk s l) {as : List AV} {H : List Ob} {x : AV × List Ob}, (knowG s.g l as H).run = some x → (s.g as H).run = some x
  | [], _, _, _, _, h => h
  | r :: l, hl, as, H, x, h => by
    simp only [knowG] at h
    split at h
    · rename_i acc hm
      obtain ⟨he, h⟩ := askT_run h
      simp only [Tree.run, Option.some.injEq] at h
      subst h
      obtain ⟨rfl, rfl⟩ := matchR_ok hm he
      exact hl r List.mem_cons_self
    · exact knowG_run (fun y hy => hl y (List.mem_cons_of_mem _ hy)) h
theorem know_ok {K : Know} {P : Program} {f : FuncId} {s : Summ} (h : SummOk K P f s) {l : List Row} (hl : RowsOk s l) : SummOk K P f (knowS s l) := by
  rcases h with h | ⟨h1, h⟩
  · exact .inl fun args H H' v hg hck => h args H H' v (knowG_run hl hg) hck
  · exact .inr ⟨h1, fun args H H' v hg hck => h args H H' v (knowG_run hl hg) hck⟩
/-! ### Code by its parts -/
section
variable {P : Program} {T : Tab} {N m fuel : Nat}
end
end Go.Vy
