/-
  The text parser: the lines that are known, each by a run of its own.
-/
import Derived.Test.YtfbldjaepenfpaaGreatDoorVyN
import Derived.Test.YtfbldjaepenfpaaGreatDoorFaS
noncomputable section
namespace Go.Vy
open Go Go.RowKit Go.Sy Go.Sz Go.Fa
set_option linter.unusedVariables false
set_option linter.unusedSimpArgs false
def insT : Tys := .cons (.w .u8) (.cons (.w .u8) (.cons (.w .u8) (.cons (.i .i16) (.cons (.i .i32) .nil))))
def oneR (l : Slots) : AV × List Ob := (.t [.one (.h 0), .one (.v (.bool true))], [.row insT l])
def oneF (fnd : ByteArray → Bool) (get : ByteArray → Slots) : denAs [.c .s] → denObs [] → Tree (AV × List Ob) := fun x _ => .ite (fnd x.1) (.ret (oneR (get x.1))) .fail
def oneS (fnd : ByteArray → Bool) (get : ByteArray → Slots) : Summ := sumT [.any] false [.c .s] [] (oneF fnd get)
structure LinesK (K : Know) (P : Program) (f : FuncId) where
  fnd : ByteArray → Bool
  get : ByteArray → Slots
  ok : SummOk K P f (oneS fnd get)
abbrev Tb := List (ByteArray × Slots)
def fndT : Tb → ByteArray → Bool
  | [], _ => false
  | x :: l, s => eqBA x.1 s || fndT l s
def getT : Tb → ByteArray → Slots
  | [], _ => []
  | x :: l, s => bif eqBA x.1 s then x.2 else getT l s
structure LineOk (K : Know) (P : Program) (f : FuncId) (x : ByteArray × Slots) where
  S : Summ
  ok : SummOk K P f S
  a : AV
  v : AV
  H : List Ob
  pa : plA a = .p (.one (.v (.string x.1)))
  run : (S.g [a] []).run = some (v, H)
  ck : S.ck [a] [] = true
  np : isPan v = none
  pv : plA v = .t [.one (.h 0), .one (.v (.bool true))]
  rl : RLs H [.row insT x.2]
theorem fndT_mem : ∀ {tb : Tb} {s : ByteArray}, fndT tb s = true → ∃ x ∈ tb, x.1 = s ∧ x.2 = getT tb s
  | [], _, h => by cases h
  | x :: l, s, h => by
    simp only [fndT] at h
    simp only [getT]
    cases hb : eqBA x.1 s with
    | true => exact ⟨x, List.mem_cons_self, eqBA_eq hb, rfl⟩
    | false =>
      rw [hb] at h
      obtain ⟨y, h1, h2, h3⟩ := fndT_mem (show fndT l s = true from h)
      exact ⟨y, List.mem_cons_of_mem _ h1, h2, h3⟩
inductive LinesOk (K : Know) (P : Program) (f : FuncId) : Tb → Type
  | nil : LinesOk K P f []
  | cons {x : ByteArray × Slots} {l : Tb} (h : LineOk K P f x) (t : LinesOk K P f l) : LinesOk K P f (x :: l)
theorem LinesOk.get {K : Know} {P : Program} {f : FuncId} {tb : Tb} (h : LinesOk K P f tb) : ∀ x ∈ tb, Nonempty (LineOk K P f x) := by
  induction h with
  | nil => intro x hx; cases hx
  | cons h _ ih =>
    intro x hx
    rcases List.mem_cons.1 hx with rfl | hx
    · exact ⟨h⟩
    · exact ih x hx
theorem lines_ok {K : Know} {P : Program} {f : FuncId} (hfn : ∃ fn, P.funcs[f]? = some fn ∧ (fn.name == "runtime.NumGoroutine") = false ∧ fn.body.isNone = false) {tb : Tb} (hl : LinesOk K P f tb) : SummOk K P f (oneS (fndT tb) (getT tb)) := by
  have key : ∀ {args : List AV} {H H' : List Ob} {v : AV}, ((oneS (fndT tb) (getT tb)).g args H).run = some (v, H') → ∃ x, Nonempty (LineOk K P f x) ∧ args = [.p (.one (.v (.string x.1)))] ∧ H = [] ∧ v = .t [.one (.h 0), .one (.v (.bool true))] ∧ H' = [.row insT x.2] := fun {args H H' v} hg => by
    simp only [oneS, sumT] at hg
    split at hg
    · rename_i x y hx hy
      have e1 := decAs_eq hx
      have e2 := decOs_eq hy
      simp only [oneF, Tree.run] at hg
      cases hf : fndT tb x.1 with
      | false => rw [hf] at hg; cases hg
      | true =>
        rw [hf] at hg
        simp only [cond_true, Option.some.injEq, oneR, Prod.mk.injEq] at hg
        obtain ⟨rfl, rfl⟩ := hg
        obtain ⟨z, z1, z2, z3⟩ := fndT_mem hf
        exact ⟨z, hl.get z z1, by rw [e1, z2]; rfl, e2, rfl, by rw [z3]⟩
    · cases hg
  have conv : ∀ {x : ByteArray × Slots} (q : LineOk K P f x) {F : Frag} {r : Sz.Loc} {w : World} {e : Ending} {w' : World}, Post F r [] w q.v q.H e w' → Post F r [] w (.t [.one (.h 0), .one (.v (.bool true))]) [.row insT x.2] e w' := fun {x} q {_ _ _ _ _} hp =>
    Post.relab hp q.np rfl (fun F r u h => by have h2 := plA_rep h; rw [q.pv] at h2; exact h2) (fun D h => by have h2 := plA_inn h; rw [q.pv] at h2; exact h2) q.rl
  have rep : ∀ {x : ByteArray × Slots} (q : LineOk K P f x) {F : Frag} {r : Sz.Loc} {us : List Value}, avsRep F r [.p (.one (.v (.string x.1)))] us → avsRep F r [q.a] us := fun {x} q {F r us} h => by
    cases us with
    | nil => exact h.elim
    | cons u us => exact ⟨unplA (by rw [q.pa]; exact h.1), by cases us <;> exact h.2⟩
  have inn : ∀ {x : ByteArray × Slots} (q : LineOk K P f x) {D : Nat → Prop}, ∀ a ∈ [q.a], a.inn D := fun {x} q {D} a ha => by
    rw [List.mem_singleton] at ha; subst ha
    exact uninA (by rw [q.pa]; trivial)
  refine .inr ⟨hfn, fun args H H' v hg _ F r w us hk hp ha hi => ?_⟩
  obtain ⟨x, ⟨q⟩, rfl, rfl, rfl, rfl⟩ := key hg
  rcases q.ok with ho | ⟨_, ho⟩
  · obtain ⟨u, w', k1, k2, k3⟩ := ho _ [] _ _ q.run q.ck F r w us hk hp (rep q ha) (inn q)
    exact (not_ext hfn k1).elim
  · exact (ho _ [] _ _ q.run q.ck F r w us hk hp (rep q ha) (inn q)).mono fun e w' hpost => conv q hpost
end Go.Vy
