/-
  A symbolic machine for one call, with rows of any length: other names for the objects.
  A symbolic machine for one call, with rows of any length: what is lent to a function that only reads it.
-/
import Derived.Test.YtfbldjaepenfpaaGreatDoorSzR
noncomputable section
namespace Go.Sz
open Go Go.RowKit Go.Sy
set_option linter.unusedVariables false
set_option linter.unusedSimpArgs false
set_option linter.constructorNameAsVariable false
/-! ### Names of objects: of places in cells, and of rows and maps -/
structure Ren where
  p : Nat → Nat → Option (Nat × Nat)
  h : Nat → Option Nat
def renK (σ : Ren) : Cap → Option Cap
  | .v x => some (.v x)
  | .w k x => some (.w k x)
  | .p j o => match σ.p j o with
    | some (k, o') => some (.p k o')
    | none => none
  | .h j => match σ.h j with
    | some k => some (.h k)
    | none => none
  | .d ts l => some (.d ts l)
  | .q ts x => some (.q ts x)
  | .y i pv => some (.y i pv)
def renKs (σ : Ren) : List Cap → Option (List Cap)
  | [] => some []
  | c :: l => match renK σ c, renKs σ l with
    | some x, some y => some (x :: y)
    | _, _ => none
def renC (σ : Ren) : Cell → Option Cell
  | .v x => some (.v x)
  | .w k x => some (.w k x)
  | .p j o => match σ.p j o with
    | some (k, o') => some (.p k o')
    | none => none
  | .h j => match σ.h j with
    | some k => some (.h k)
    | none => none
  | .d ts l => some (.d ts l)
  | .q ts x => some (.q ts x)
  | .y i pv => some (.y i pv)
  | .e j base n sz idx off => match σ.p j base with
    | some (k, b') => some (.e k b' n sz idx off)
    | none => none
  | .er j sz idx off => match σ.h j with
    | some k => some (.er k sz idx off)
    | none => none
  | .hs j sz lo len mx => match σ.h j with
    | some k => some (.hs k sz lo len mx)
    | none => none
  | .s j off sz len cap => match σ.p j off with
    | some (k, o') => some (.s k o' sz len cap)
    | none => none
  | .clo f caps => match renKs σ caps with
    | some c => some (.clo f c)
    | none => none
def renL (σ : Ren) : List Cell → Option (List Cell)
  | [] => some []
  | c :: l => match renC σ c, renL σ l with
    | some x, some y => some (x :: y)
    | _, _ => none
def renP (σ : Ren) : Part → Option Part
  | .one c => match renC σ c with
    | some x => some (.one x)
    | none => none
  | .many l => match renL σ l with
    | some x => some (.many x)
    | none => none
def renPs (σ : Ren) : List Part → Option (List Part)
  | [] => some []
  | c :: l => match renP σ c, renPs σ l with
    | some x, some y => some (x :: y)
    | _, _ => none
def renA (σ : Ren) : AV → Option AV
  | .p x => match renP σ x with
    | some y => some (.p y)
    | none => none
  | .t l => match renPs σ l with
    | some y => some (.t y)
    | none => none
structure RenOk (σ : Ren) (r r' : Loc) (D' : Nat → Prop) : Prop where
  p : ∀ j o k o', σ.p j o = some (k, o') → D' k ∧ (r j).b = (r' k).b ∧ (r j).o + o = (r' k).o + o'
  h : ∀ j k, σ.h j = some k → D' k ∧ r' k = r j
section
variable {σ : Ren} {r r' : Loc} {D' : Nat → Prop} (hσ : RenOk σ r r' D') {F : Frag}
include hσ
theorem renK_rep {c c' : Cap} (h : renK σ c = some c') : c'.inn D' ∧ ∀ u, c.rep F r u → c'.rep F r' u := by
  cases c with
  | v x => simp only [renK, Option.some.injEq] at h; subst h; exact ⟨trivial, fun u hu => hu⟩
  | w k x => simp only [renK, Option.some.injEq] at h; subst h; exact ⟨trivial, fun u hu => hu⟩
  | p j o =>
    simp only [renK] at h
    split at h
    · rename_i k o' hk
      injection h with h; subst h
      obtain ⟨h0, h1, h2⟩ := hσ.p _ _ _ _ hk
      exact ⟨h0, fun u hu => by simp only [Cap.rep] at *; rw [← h1, ← h2]; exact hu⟩
    · cases h
  | h j =>
    simp only [renK] at h
    split at h
    · rename_i k hk
      injection h with h; subst h
      obtain ⟨h0, h1⟩ := hσ.h _ _ hk
      exact ⟨h0, fun u hu => by simp only [Cap.rep] at *; rw [h1]; exact hu⟩
    · cases h
  | d ts l => simp only [renK, Option.some.injEq] at h; subst h; exact ⟨trivial, fun u hu => hu⟩
  | q ts x => simp only [renK, Option.some.injEq] at h; subst h; exact ⟨trivial, fun u hu => hu⟩
  | y i pv => simp only [renK, Option.some.injEq] at h; subst h; exact ⟨trivial, fun u hu => hu⟩
theorem renKs_rep : ∀ {c c' : List Cap}, renKs σ c = some c' → (∀ x ∈ c', x.inn D') ∧ ∀ u, capsRep F r c u → capsRep F r' c' u
  | [], c', h => by simp only [renKs, Option.some.injEq] at h; subst h; exact ⟨fun x hx => (by cases hx), fun u hu => (by cases u <;> exact hu)⟩
  | c :: l, c', h => by
    simp only [renKs] at h
    split at h
    · rename_i x y hx hy
      injection h with h; subst h
      obtain ⟨h1, h2⟩ := renK_rep hσ (F := F) hx
      obtain ⟨h3, h4⟩ := renKs_rep hy
      refine ⟨fun z hz => ?_, fun u hu => ?_⟩
      · rcases List.mem_cons.1 hz with rfl | hz
        · exact h1
        · exact h3 z hz
      · cases u with
        | nil => exact hu.elim
        | cons a b => exact ⟨h2 a hu.1, h4 b hu.2⟩
    · cases h
theorem renC_rep {c c' : Cell} (h : renC σ c = some c') : c'.inn D' ∧ ∀ u, c.rep F r u → c'.rep F r' u := by
  cases c with
  | v x => simp only [renC, Option.some.injEq] at h; subst h; exact ⟨trivial, fun u hu => hu⟩
  | w k x => simp only [renC, Option.some.injEq] at h; subst h; exact ⟨trivial, fun u hu => hu⟩
  | p j o =>
    simp only [renC] at h
    split at h
    · rename_i k o' hk
      injection h with h; subst h
      obtain ⟨h0, h1, h2⟩ := hσ.p _ _ _ _ hk
      exact ⟨h0, fun u hu => by simp only [Cell.rep] at *; rw [← h1, ← h2]; exact hu⟩
    · cases h
  | h j =>
    simp only [renC] at h
    split at h
    · rename_i k hk
      injection h with h; subst h
      obtain ⟨h0, h1⟩ := hσ.h _ _ hk
      exact ⟨h0, fun u hu => by simp only [Cell.rep] at *; rw [h1]; exact hu⟩
    · cases h
  | d ts l => simp only [renC, Option.some.injEq] at h; subst h; exact ⟨trivial, fun u hu => hu⟩
  | q ts x => simp only [renC, Option.some.injEq] at h; subst h; exact ⟨trivial, fun u hu => hu⟩
  | y i pv => simp only [renC, Option.some.injEq] at h; subst h; exact ⟨trivial, fun u hu => hu⟩
  | e j base n sz idx off =>
    simp only [renC] at h
    split at h
    · rename_i k o' hk
      injection h with h; subst h
      obtain ⟨h0, h1, h2⟩ := hσ.p _ _ _ _ hk
      refine ⟨h0, fun u hu => ?_⟩
      simp only [Cell.rep] at *
      rw [← h1, show (r' k).o + (o' + idx * sz + off) = (r j).o + (base + idx * sz + off) by omega]; exact hu
    · cases h
  | er j sz idx off =>
    simp only [renC] at h
    split at h
    · rename_i k hk
      injection h with h; subst h
      obtain ⟨h0, h1⟩ := hσ.h _ _ hk
      exact ⟨h0, fun u hu => by simp only [Cell.rep] at *; rw [h1]; exact hu⟩
    · cases h
  | hs j sz lo len mx =>
    simp only [renC] at h
    split at h
    · rename_i k hk
      injection h with h; subst h
      obtain ⟨h0, h1⟩ := hσ.h _ _ hk
      exact ⟨h0, fun u hu => by simp only [Cell.rep] at *; rw [h1]; exact hu⟩
    · cases h
  | s j off sz len cap =>
    simp only [renC] at h
    split at h
    · rename_i k o' hk
      injection h with h; subst h
      obtain ⟨h0, h1, h2⟩ := hσ.p _ _ _ _ hk
      exact ⟨h0, fun u hu => by simp only [Cell.rep] at *; rw [← h1, ← h2]; exact hu⟩
    · cases h
  | clo f caps =>
    simp only [renC] at h
    split at h
    · rename_i c hc
      injection h with h; subst h
      obtain ⟨h1, h2⟩ := renKs_rep hσ (F := F) hc
      refine ⟨h1, fun u hu => ?_⟩
      obtain ⟨vs, g1, g2⟩ := hu
      exact ⟨vs, h2 vs g1, g2⟩
    · cases h
theorem renL_rep : ∀ {c c' : List Cell}, renL σ c = some c' → c'.length = c.length ∧ (∀ x ∈ c', x.inn D') ∧ ∀ u, cellsRep F r c u → cellsRep F r' c' u
  | [], c', h => by simp only [renL, Option.some.injEq] at h; subst h; exact ⟨rfl, fun x hx => (by cases hx), fun u hu => (by cases u <;> exact hu)⟩
  | c :: l, c', h => by
    simp only [renL] at h
    split at h
    · rename_i x y hx hy
      injection h with h; subst h
      obtain ⟨h1, h2⟩ := renC_rep hσ (F := F) hx
      obtain ⟨h5, h3, h4⟩ := renL_rep hy
      refine ⟨by simp [h5], fun z hz => ?_, fun u hu => ?_⟩
      · rcases List.mem_cons.1 hz with rfl | hz
        · exact h1
        · exact h3 z hz
      · cases u with
        | nil => exact hu.elim
        | cons a b => exact ⟨h2 a hu.1, h4 b hu.2⟩
    · cases h
theorem renP_rep {c c' : Part} (h : renP σ c = some c') : c'.inn D' ∧ ∀ u, c.rep F r u → c'.rep F r' u := by
  cases c with
  | one c =>
    simp only [renP] at h
    split at h
    · rename_i x hx
      injection h with h; subst h
      exact renC_rep hσ hx
    · cases h
  | many l =>
    simp only [renP] at h
    split at h
    · rename_i x hx
      injection h with h; subst h
      obtain ⟨_, h1, h2⟩ := renL_rep hσ (F := F) hx
      refine ⟨h1, fun u hu => ?_⟩
      obtain ⟨vs, g1, g2⟩ := hu
      exact ⟨vs, h2 vs g1, g2⟩
    · cases h
theorem renPs_rep : ∀ {c c' : List Part}, renPs σ c = some c' → (∀ x ∈ c', x.inn D') ∧ ∀ u, partsRep F r c u → partsRep F r' c' u
  | [], c', h => by simp only [renPs, Option.some.injEq] at h; subst h; exact ⟨fun x hx => (by cases hx), fun u hu => (by cases u <;> exact hu)⟩
  | c :: l, c', h => by
    simp only [renPs] at h
    split at h
    · rename_i x y hx hy
      injection h with h; subst h
      obtain ⟨h1, h2⟩ := renP_rep hσ (F := F) hx
      obtain ⟨h3, h4⟩ := renPs_rep hy
      refine ⟨fun z hz => ?_, fun u hu => ?_⟩
      · rcases List.mem_cons.1 hz with rfl | hz
        · exact h1
        · exact h3 z hz
      · cases u with
        | nil => exact hu.elim
        | cons a b => exact ⟨h2 a hu.1, h4 b hu.2⟩
    · cases h
theorem renA_rep {c c' : AV} (h : renA σ c = some c') : c'.inn D' ∧ ∀ u, c.rep F r u → c'.rep F r' u := by
  cases c with
  | p c =>
    simp only [renA] at h
    split at h
    · rename_i x hx
      injection h with h; subst h
      exact renP_rep hσ hx
    · cases h
  | t l =>
    simp only [renA] at h
    split at h
    · rename_i x hx
      injection h with h; subst h
      obtain ⟨h1, h2⟩ := renPs_rep hσ (F := F) hx
      refine ⟨h1, fun u hu => ?_⟩
      obtain ⟨vs, g1, g2⟩ := hu
      exact ⟨vs, h2 vs g1, g2⟩
    · cases h
def avsRep (F : Frag) (r : Loc) : List AV → List Value → Prop
  | [], [] => True
  | c :: cs, v :: vs => c.rep F r v ∧ avsRep F r cs vs
  | _, _ => False
end
/-! ### Without data that lie elsewhere -/
def isLit : Ob → Bool
  | .lit _ => true
  | _ => false
def renCm (σ : Ren) : List (Value × Part) → Option (List (Value × Part))
  | [] => some []
  | (k, q) :: l => match renP σ q, renCm σ l with
    | some x, some y => some ((k, x) :: y)
    | _, _ => none
def renOb (σ : Ren) : Ob → Option Ob
  | .lit l => match renL σ l with
    | some l' => some (.lit l')
    | none => none
  | .lr sz n l => match renL σ l with
    | some l' => some (.lr sz n l')
    | none => none
  | .cm es => match renCm σ es with
    | some es' => some (.cm es')
    | none => none
  | ob => some ob
section
variable {σ : Ren} {r r' : Loc} {D' : Nat → Prop} (hσ : RenOk σ r r' D') {F : Frag} {w : World}
include hσ
theorem renCm_rep : ∀ {m m' : List (Value × Part)}, renCm σ m = some m' → (∀ x ∈ m', x.2.inn D') ∧ ∀ es, centries F r m es → centries F r' m' es
  | [], m', h => by
    simp only [renCm, Option.some.injEq] at h; subst h
    exact ⟨fun x hx => (by cases hx), fun es he => (by cases es <;> exact he)⟩
  | (k, q) :: l, m', h => by
    simp only [renCm] at h
    split at h
    · rename_i x y hx hy
      injection h with h; subst h
      obtain ⟨h1, h2⟩ := renP_rep hσ (F := F) hx
      obtain ⟨h3, h4⟩ := renCm_rep hy
      refine ⟨fun z hz => ?_, fun es he => ?_⟩
      · rcases List.mem_cons.1 hz with rfl | hz
        · exact h1
        · exact h3 z hz
      · cases es with
        | nil => exact he.elim
        | cons e es => exact ⟨he.1, h2 _ he.2.1, h4 es he.2.2⟩
    · cases h
theorem renOb_spec {ob ob' : Ob} (h : renOb σ ob = some ob') : (∀ d, ObIs F r d w ob → ObIs F r' d w ob') ∧ (∀ d b o, ob'.foot d b o → ob.foot d b o) ∧ ob'.inn D' := by
  cases ob with
  | lit l =>
    simp only [renOb] at h
    split at h
    · rename_i l' hl
      injection h with h; subst h
      obtain ⟨h1, h2, h3⟩ := renL_rep hσ (F := F) hl
      refine ⟨fun d hd => ?_, fun d b o hf => ?_, h2⟩
      · obtain ⟨vs, g1, g2, g3, g4⟩ := hd
        exact ⟨vs, h3 _ g1, g2, by rw [h1]; exact g3, g4⟩
      · obtain ⟨g1, g2, g3⟩ := hf
        exact ⟨g1, g2, by rw [← h1]; exact g3⟩
    · cases h
  | lr sz n l =>
    simp only [renOb] at h
    split at h
    · rename_i l' hl
      injection h with h; subst h
      obtain ⟨h1, h2, h3⟩ := renL_rep hσ (F := F) hl
      refine ⟨fun d hd => ?_, fun d b o hf => hf, h2⟩
      rcases hd with ⟨g1, g2, g3⟩ | ⟨cap, vs, g1, g2, g3, g4, g5, g6, g7, g8⟩
      · subst g3
        simp only [renL, Option.some.injEq] at hl
        exact .inl ⟨g1, g2, hl.symm⟩
      · exact .inr ⟨cap, vs, g1, by rw [h1]; exact g2, g3, g4, g5, h3 _ g6, g7, g8⟩
    · cases h
  | cm m =>
    simp only [renOb] at h
    split at h
    · rename_i m' hm
      injection h with h; subst h
      obtain ⟨h1, h2⟩ := renCm_rep hσ (F := F) hm
      refine ⟨fun d hd => ?_, fun d b o hf => hf, h1⟩
      obtain ⟨g0, es, clock, g1, g2, g3⟩ := hd
      exact ⟨g0, es, clock, g1, h2 _ g2, g3⟩
    · cases h
  | row ts l => simp only [renOb, Option.some.injEq] at h; subst h; exact ⟨fun d hd => hd, fun d b o hf => hf, trivial⟩
  | frz ts l => simp only [renOb, Option.some.injEq] at h; subst h; exact ⟨fun d hd => hd, fun d b o hf => hf, trivial⟩
  | mp a b c => simp only [renOb, Option.some.injEq] at h; subst h; exact ⟨fun d hd => hd, fun d b o hf => hf, trivial⟩
  | dead => simp only [renOb, Option.some.injEq] at h; subst h; exact ⟨fun d hd => hd, fun d b o hf => hf, trivial⟩
end
def flatB : Tys → Bool
  | .nil => true
  | .cons (.sl _) _ => false
  | .cons _ ts => flatB ts
def noDK : Cap → Bool
  | .d _ _ => false
  | .q _ _ => false
  | _ => true
def noDKs : List Cap → Bool
  | [] => true
  | c :: l => noDK c && noDKs l
def noDC : Cell → Bool
  | .d _ _ => false
  | .q _ _ => false
  | .clo _ caps => noDKs caps
  | _ => true
def noDL : List Cell → Bool
  | [] => true
  | c :: l => noDC c && noDL l
def noDP : Part → Bool
  | .one c => noDC c
  | .many l => noDL l
def noDPs : List Part → Bool
  | [] => true
  | c :: l => noDP c && noDPs l
def noDA : AV → Bool
  | .p x => noDP x
  | .t l => noDPs l
def flatTy : Ty → Bool
  | .sl _ => false
  | _ => true
def flatV : Vt → Bool
  | .one t => flatTy t
  | .many ts => flatB ts
def noDCm : List (Value × Part) → Bool
  | [] => true
  | x :: l => noDP x.2 && noDCm l
def noDO : Ob → Bool
  | .lit l => noDL l
  | .row ts _ => flatB ts
  | .mp kt vt _ => flatTy kt && flatV vt
  | .dead => true
  | .lr _ _ l => noDL l
  | .cm es => noDCm es
  | _ => false
def noDOs : List Ob → Bool
  | [] => true
  | c :: l => noDO c && noDOs l
section
variable {F F' : Frag} {r : Loc}
theorem noDK_rep {c : Cap} (h : noDK c = true) {u : Value} (hu : c.rep F r u) : c.rep F' r u := by
  cases c <;> first | exact hu | (simp [noDK] at h)
theorem noDKs_rep : ∀ {c : List Cap} (h : noDKs c = true) {u : List Value} (hu : capsRep F r c u), capsRep F' r c u
  | [], _, [], _ => trivial
  | [], _, _ :: _, h => h.elim
  | _ :: _, _, [], h => h.elim
  | c :: l, h, u :: us, hu => by
    simp only [noDKs, Bool.and_eq_true] at h
    exact ⟨noDK_rep h.1 hu.1, noDKs_rep h.2 hu.2⟩
theorem noDC_rep {c : Cell} (h : noDC c = true) {u : Value} (hu : c.rep F r u) : c.rep F' r u := by
  cases c with
  | d ts l => simp [noDC] at h
  | q ts x => simp [noDC] at h
  | clo f caps => obtain ⟨vs, g1, g2⟩ := hu; exact ⟨vs, noDKs_rep (by simpa [noDC] using h) g1, g2⟩
  | _ => exact hu
theorem noDL_rep : ∀ {c : List Cell} (h : noDL c = true) {u : List Value} (hu : cellsRep F r c u), cellsRep F' r c u
  | [], _, [], _ => trivial
  | [], _, _ :: _, h => h.elim
  | _ :: _, _, [], h => h.elim
  | c :: l, h, u :: us, hu => by
    simp only [noDL, Bool.and_eq_true] at h
    exact ⟨noDC_rep h.1 hu.1, noDL_rep h.2 hu.2⟩
theorem noDP_rep {c : Part} (h : noDP c = true) {u : Value} (hu : c.rep F r u) : c.rep F' r u := by
  cases c with
  | one c => exact noDC_rep h hu
  | many l => obtain ⟨vs, g1, g2⟩ := hu; exact ⟨vs, noDL_rep h g1, g2⟩
theorem noDPs_rep : ∀ {c : List Part} (h : noDPs c = true) {u : List Value} (hu : partsRep F r c u), partsRep F' r c u
  | [], _, [], _ => trivial
  | [], _, _ :: _, h => h.elim
  | _ :: _, _, [], h => h.elim
  | c :: l, h, u :: us, hu => by
    simp only [noDPs, Bool.and_eq_true] at h
    exact ⟨noDP_rep h.1 hu.1, noDPs_rep h.2 hu.2⟩
theorem noDA_rep {c : AV} (h : noDA c = true) {u : Value} (hu : c.rep F r u) : c.rep F' r u := by
  cases c with
  | p c => exact noDP_rep h hu
  | t l => obtain ⟨vs, g1, g2⟩ := hu; exact ⟨vs, noDPs_rep h g1, g2⟩
theorem flatB_rep {G : Frag} : ∀ {ts : Tys} {x : ts.den} {b o : Nat}, flatB ts = true → RepC G F b o ts x → RepC G F' b o ts x
  | .nil, _, _, _, _, h => by simp only [RepC]
  | .cons (.w k) ts, x, b, o, h, hr => by
    simp only [RepC, RepT, flatB] at *; exact ⟨hr.1, flatB_rep h hr.2⟩
  | .cons (.i k) ts, x, b, o, h, hr => by
    simp only [RepC, RepT, flatB] at *; exact ⟨hr.1, flatB_rep h hr.2⟩
  | .cons .b ts, x, b, o, h, hr => by
    simp only [RepC, RepT, flatB] at *; exact ⟨hr.1, flatB_rep h hr.2⟩
  | .cons .str ts, x, b, o, h, hr => by
    simp only [RepC, RepT, flatB] at *; exact ⟨hr.1, flatB_rep h hr.2⟩
  | .cons (.sl _) ts, x, b, o, h, hr => by simp [flatB] at h
theorem flatTy_rep : ∀ {t : Ty} {x : t.den} {v : Value}, flatTy t = true → RepT F t x v → RepT F' t x v
  | .w _, _, _, _, h => h
  | .i _, _, _, _, h => h
  | .b, _, _, _, h => h
  | .str, _, _, _, h => h
  | .sl _, _, _, h, _ => by cases h
theorem flatL_rep : ∀ {ts : Tys} {x : ts.den} {vs : List Value}, flatB ts = true → RepL F ts x vs → RepL F' ts x vs
  | .nil, _, [], _, _ => trivial
  | .nil, _, _ :: _, _, h => h.elim
  | .cons _ _, _, [], _, h => h.elim
  | .cons t ts, x, v :: vs, hb, h => by
    have hb2 : flatTy t = true ∧ flatB ts = true := by cases t <;> simp_all [flatB, flatTy]
    exact ⟨flatTy_rep hb2.1 h.1, flatL_rep hb2.2 h.2⟩
theorem flatV_rep {t : Vt} {x : t.den} {v : Value} (hb : flatV t = true) (h : RepV F t x v) : RepV F' t x v := by
  cases t with
  | one t => exact flatTy_rep hb h
  | many ts => obtain ⟨vs, h1, h2⟩ := h; exact ⟨vs, flatL_rep hb h1, h2⟩
theorem noDCm_rep : ∀ {m : List (Value × Part)} (h : noDCm m = true) {es : List MapEntry}, centries F r m es → centries F' r m es
  | [], _, [], _ => trivial
  | [], _, _ :: _, h => h.elim
  | _ :: _, _, [], h => h.elim
  | x :: m, hb, e :: es, h => by
    simp only [noDCm, Bool.and_eq_true] at hb
    exact ⟨h.1, noDP_rep hb.1 h.2.1, noDCm_rep hb.2 h.2.2⟩
theorem noDO_rep {ob : Ob} (h : noDO ob = true) {d : Ld} {w : World} (hu : ObIs F r d w ob) : ObIs F' r d w ob := by
  cases ob with
  | lit l => obtain ⟨vs, g1, g2⟩ := hu; exact ⟨vs, noDL_rep h g1, g2⟩
  | row ts l =>
    rcases hu with hu | ⟨cap, h1, h2, h3, h4, h5⟩
    · exact .inl hu
    · exact .inr ⟨cap, h1, h2, h3, h4, fun i x hx => flatB_rep h (h5 i x hx)⟩
  | dead => trivial
  | lr sz n l =>
    rcases hu with hu | ⟨cap, vs, g1, g2, g3, g4, g5, g6, g7⟩
    · exact .inl hu
    · exact .inr ⟨cap, vs, g1, g2, g3, g4, g5, noDL_rep h g6, g7⟩
  | cm m =>
    obtain ⟨h0, es, clock, h1, h2, h3⟩ := hu
    exact ⟨h0, es, clock, h1, noDCm_rep h h2, h3⟩
  | frz ts l => simp [noDO] at h
  | mp kt vt m =>
    simp only [noDO, Bool.and_eq_true] at h
    obtain ⟨h0, es, clock, h1, h2, h3⟩ := hu
    refine ⟨h0, es, clock, h1, ?_, h3⟩
    have key : ∀ (m : List (kt.den × vt.den)) (es : List MapEntry), entriesRep F kt vt m es → entriesRep F' kt vt m es := by
      intro m
      induction m with
      | nil => intro es h; cases es <;> first | trivial | exact h.elim
      | cons x m ih =>
        intro es hh
        cases es with
        | nil => exact hh.elim
        | cons e es => exact ⟨flatTy_rep h.1 hh.1, flatV_rep h.2 hh.2.1, ih es hh.2.2⟩
    exact key _ _ h2
theorem noDOs_mem : ∀ {l : List Ob}, noDOs l = true → ∀ ob ∈ l, noDO ob = true
  | [], _, ob, h => by cases h
  | c :: l, h, ob, hm => by
    simp only [noDOs, Bool.and_eq_true] at h
    rcases List.mem_cons.1 hm with rfl | hm
    · exact h.1
    · exact noDOs_mem h.2 ob hm
end
end Go.Sz
namespace Go.Sz
open Go Go.RowKit Go.Sy
set_option linter.unusedVariables false
set_option linter.unusedSimpArgs false
set_option linter.constructorNameAsVariable false
noncomputable def Fplus (F : Frag) (w : World) (Q : Nat → Nat → Prop) : Frag := by
  classical
  exact fun b o => match F b o with
    | some v => some v
    | none => if Q b o then w.cell? ⟨b, o, none⟩ else none
theorem Fplus_le (F : Frag) (w : World) (Q : Nat → Nat → Prop) : F.le (Fplus F w Q) := fun b o v hv => by simp [Fplus, hv]
theorem Fplus_get {F : Frag} {w : World} {Q : Nat → Nat → Prop} {b o : Nat} {v : Value} (h : Fplus F w Q b o = some v) : F b o = some v ∨ (Q b o ∧ w.cell? ⟨b, o, none⟩ = some v) := by
  simp only [Fplus] at h
  split at h
  · rename_i v' hv'; injection h with h; subst h; exact .inl hv'
  · split at h
    · rename_i hq; exact .inr ⟨hq, h⟩
    · cases h
theorem Fplus_new {F : Frag} {w : World} (hF : F.le (memF w)) {Q : Nat → Nat → Prop} {b o : Nat} {v : Value} (hq : Q b o) (h : w.cell? ⟨b, o, none⟩ = some v) : Fplus F w Q b o = some v := by
  simp only [Fplus]
  cases hf : F b o with
  | some v' =>
    have := hF _ _ _ hf
    simp only [memF] at this
    rw [h] at this; simpa using this.symm
  | none => simp [hq, h]
/-! ### Slices seen as data -/
def viewT (H : Hf) (ts : Tys) : Cell → Tree (List ts.den × List Nat)
  | .d _ l => match toL ts l with
    | some l' => .ret (l', [])
    | none => .fail
  | .h j => match H j with
    | some (.row _ l) => match toL ts l with
      | some l' => .ret (l', [j])
      | none => .fail
    | some (.frz _ l) => match toL ts l with
      | some l' => .ret (l', [])
      | none => .fail
    | _ => .fail
  | .hs j sz lo n mx => match H j with
    | some (.row _ l) => match toL ts l with
      | some l' => .ck (Nat.ble (lo + n) l'.length && (Nat.beq sz ts.len && (match mx with | none => true | some m => Nat.ble (lo + n) m && Nat.ble m l'.length))) (.ret (cut l' lo (lo + n), [j]))
      | none => .fail
    | _ => .fail
  | .s j off sz n cap => match H j with
    | some (.lit l) => bif Nat.beq sz ts.len && (Nat.ble n cap && Nat.ble cap 140737488355328) then match litRows ts n (l.drop off) with
        | some xs => .ret (xs, [j])
        | none => .fail
      else .fail
    | _ => .fail
  | .v (.slice none 0 0) => .ret ([], [])
  | _ => .fail
def viewD (H : Hf) : (t : Ty) → Cell → Tree (t.den × List Nat)
  | .sl ts, c => viewT H ts c
  | .w k, c => match ofCell (.w k) c with
    | some x => .ret (x, [])
    | none => .fail
  | .i k, c => match ofCell (.i k) c with
    | some x => .ret (x, [])
    | none => .fail
  | .b, c => match ofCell .b c with
    | some x => .ret (x, [])
    | none => .fail
  | .str, c => match ofCell .str c with
    | some x => .ret (x, [])
    | none => .fail
def viewDs (H : Hf) : (ts : Tys) → List Cell → Tree (ts.den × List Nat)
  | .nil, [] => .ret ((), [])
  | .cons t ts, c :: cs => (viewD H t c).bind fun x => (viewDs H ts cs).bind fun xs => .ret ((x.1, xs.1), x.2 ++ xs.2)
  | _, _ => .fail
def Lent (H : Hf) (r : Loc) (js : List Nat) (b o : Nat) : Prop := ∃ j ob, j ∈ js ∧ H j = some ob ∧ ob.foot (r j) b o
section
variable {F : Frag} {r : Loc} {D : Nat → Prop} {w : World} {H : Hf}
theorem repT_of {F' : Frag} {ts : Tys} {l : List ts.den} {vs : List Value} (h : RowVals F' ts l vs) {a : Option Addr} {b o cap : Nat} (h1 : l.length ≤ cap) (h2 : cap ≤ maxLen) (ha : l ≠ [] → a = some ⟨b, o, none⟩) (hc : ∀ i v, vs[i]? = some v → F' b (o + i) = some v) :
    RepT F' (.sl ts) l (.slice a l.length cap) := by
  simp only [RepT]
  exact ⟨a, cap, rfl, h1, h2, fun hl => ⟨b, o, ha hl, h.lies hc⟩⟩
theorem Lent.mono {js js' : List Nat} (hj : ∀ j ∈ js, j ∈ js') {b o : Nat} (h : Lent H r js b o) : Lent H r js' b o := by
  obtain ⟨j, ob, h1, h2, h3⟩ := h
  exact ⟨j, ob, hj j h1, h2, h3⟩
theorem viewT_run (hs : Sees F r D H w) {ts : Tys} {c : Cell} {l : List ts.den} {js : List Nat} (h : (viewT H ts c).run = some (l, js)) {u : Value} (hu : c.rep F r u) {Q : Nat → Nat → Prop} (hQ : ∀ b o, Lent H r js b o → Q b o) :
    RepT (Fplus F w Q) (.sl ts) l u ∧ ∀ j ∈ js, ∃ ob, H j = some ob := by
  have hle := Fplus_le F w Q
  unfold viewT at h
  split at h
  · rename_i ts' l0
    split at h
    · rename_i l' hl
      simp only [Tree.run, Option.some.injEq, Prod.mk.injEq] at h
      obtain ⟨rfl, rfl⟩ := h
      exact ⟨(toL_rep hl (show RepT F (.sl ts') l0 u from hu)).mono hle, fun j hj => by cases hj⟩
    · cases h
  · rename_i j
    split at h
    · rename_i ts' l0 hj
      split at h
      · rename_i l' hl
        simp only [Tree.run, Option.some.injEq, Prod.mk.injEq] at h
        obtain ⟨rfl, rfl⟩ := h
        refine ⟨?_, fun j' hj' => by simp at hj'; subst hj'; exact ⟨_, hj⟩⟩
        obtain ⟨e, _, e3⟩ := toL_vals hl
        subst e
        obtain ⟨vs, g1, g2⟩ := row_vals (hs.obs j _ hj)
        have g1' := (rowVals_cast hl g1).mono hle
        rw [hu.1]
        rcases row_nil (hs.obs j _ hj) with ⟨k1, k2⟩ | ⟨cap, k1, k2, k3, k4⟩
        · have h0 : l' = [] := List.length_eq_zero_iff.1 (by rw [e3, k2]; rfl)
          rw [k1, h0]; exact repT_nil _
        · rw [k1, ← e3]
          refine repT_of g1' (by rw [e3]; exact k2) k3 (fun _ => rfl) (fun i v hv => Fplus_new hs.fin (hQ _ _ ⟨j, _, by simp, hj, _, _, k1, rfl, by omega, ?_⟩) (g2 i v hv))
          have hi := (List.getElem?_eq_some_iff.1 hv).1
          have : l0.length * ts'.len ≤ cap * ts'.len := Nat.mul_le_mul_right _ k2
          rw [g1.len] at hi; omega
      · cases h
    · rename_i ts' l0 hj
      split at h
      · rename_i l' hl
        simp only [Tree.run, Option.some.injEq, Prod.mk.injEq] at h
        obtain ⟨rfl, rfl⟩ := h
        refine ⟨?_, fun j hj => by cases hj⟩
        rw [hu.1]
        exact (toL_rep hl (show RepT F (.sl ts') l0 (r j).hv from hs.obs j _ hj)).mono hle
      · cases h
    · cases h
  · rename_i j sz lo n mx
    split at h
    · rename_i ts' l0 hj
      split at h
      · rename_i l' hl
        obtain ⟨hck, h⟩ := Tree.run_ck h
        simp only [Tree.run, Option.some.injEq, Prod.mk.injEq] at h
        obtain ⟨rfl, rfl⟩ := h
        refine ⟨?_, fun j' hj' => by simp at hj'; subst hj'; exact ⟨_, hj⟩⟩
        simp only [Bool.and_eq_true] at hck
        have hlelen : lo + n ≤ l'.length := Nat.le_of_ble_eq_true hck.1
        have hsz : sz = ts.len := Nat.eq_of_beq_eq_true hck.2.1
        obtain ⟨e, _, e3⟩ := toL_vals hl
        subst e
        obtain ⟨vs, g1, g2⟩ := row_vals (hs.obs j _ hj)
        have g1' := (rowVals_cast hl g1).mono hle
        have hlen : (cut l' lo (lo + n)).length = n := by simp [cut]; omega
        have hc := g1'.cut (lo := lo) (hi := lo + n) (by omega) hlelen
        have hne0 : ∀ {cap : Nat}, cut l' lo (lo + n) ≠ [] → l0.length ≤ cap → mx.getD cap ≠ lo := fun {cap} hne hcap => by
          have hn : n ≠ 0 := fun e => hne (List.length_eq_zero_iff.1 (by rw [hlen, e]))
          cases mx with
          | none => simp; omega
          | some m =>
            have h2 := hck.2.2
            simp only [Bool.and_eq_true] at h2
            have h3 : lo + n ≤ m := Nat.le_of_ble_eq_true h2.1
            simp; omega
        rw [hu.1]
        rcases row_nil (hs.obs j _ hj) with ⟨k1, k2⟩ | ⟨cap, k1, k2, k3, k4⟩
        · have h0 : cut l' lo (lo + n) = [] := List.length_eq_zero_iff.1 (by rw [hlen]; rw [e3, k2] at hlelen; simp at hlelen; omega)
          have hn0 : n = 0 := by rw [h0] at hlen; simpa using hlen.symm
          have hlo0 : lo = 0 := by rw [e3, k2] at hlelen; simp at hlelen; omega
          rw [h0, k1]
          simp only [subHdr, RepT]
          refine ⟨_, _, by rw [hn0]; rfl, Nat.zero_le _, ?_, fun h => absurd rfl h⟩
          cases mx with
          | none => simp
          | some m =>
            have h2 := hck.2.2
            simp only [Bool.and_eq_true] at h2
            have h4 : m ≤ l'.length := Nat.le_of_ble_eq_true h2.2
            rw [e3, k2] at h4; simp at h4 ⊢; omega
        · have hM : lo + n ≤ mx.getD cap ∧ mx.getD cap ≤ cap := by
            cases mx with
            | none => simp; omega
            | some m =>
              have h2 := hck.2.2
              simp only [Bool.and_eq_true] at h2
              have h3 : lo + n ≤ m := Nat.le_of_ble_eq_true h2.1
              have h4 : m ≤ l'.length := Nat.le_of_ble_eq_true h2.2
              simp; omega
          rw [k1]
          simp only [subHdr]
          have hres := repT_of (a := if mx.getD cap = lo then some (⟨(r j).b, (r j).o, none⟩ : Addr) else Option.map (fun x : Addr => x.add (lo * sz)) (some (⟨(r j).b, (r j).o, none⟩ : Addr))) (b := (r j).b) (o := (r j).o + lo * ts'.len) (cap := mx.getD cap - lo) hc (by rw [hlen]; omega) (by omega) (fun hne => by rw [if_neg (hne0 hne k2), hsz]; simp [Addr.add_mid]) (fun i v hv => ?_)
          · rw [hlen] at hres; exact hres
          · have hi : i < (lo + n - lo) * ts'.len := by
              have := (List.getElem?_eq_some_iff.1 hv).1
              rw [List.length_take] at this
              exact Nat.lt_of_lt_of_le this (Nat.min_le_left _ _)
            rw [List.getElem?_take, if_pos hi, List.getElem?_drop] at hv
            have h5 := g2 _ v hv
            rw [← Nat.add_assoc] at h5
            refine Fplus_new hs.fin (hQ _ _ ⟨j, _, by simp, hj, _, _, k1, rfl, by omega, ?_⟩) h5
            have hi2 := (List.getElem?_eq_some_iff.1 hv).1
            have : l0.length * ts'.len ≤ cap * ts'.len := Nat.mul_le_mul_right _ k2
            rw [g1.len] at hi2; omega
      · cases h
    · cases h
  · rename_i j off sz n cap
    split at h
    · rename_i l0 hj
      cases hb : (Nat.beq sz ts.len && (Nat.ble n cap && Nat.ble cap 140737488355328)) with
      | false => rw [hb] at h; cases h
      | true =>
        rw [hb] at h
        simp only [cond_true] at h
        simp only [Bool.and_eq_true] at hb
        split at h
        · rename_i xs hxs
          simp only [Tree.run, Option.some.injEq, Prod.mk.injEq] at h
          obtain ⟨rfl, rfl⟩ := h
          refine ⟨?_, fun j' hj' => by simp at hj'; subst hj'; exact ⟨_, hj⟩⟩
          obtain ⟨us, k1, k2, k3, k4⟩ := hs.obs j _ hj
          obtain ⟨g1, g2, g3⟩ := litRows_vals hxs (cellsRep_drop off k1) (fun v hv => k4 v (List.mem_of_mem_drop hv))
          have hul := cellsRep_length k1
          rw [show u = _ from hu, ← g1]
          refine repT_of (g3.mono hle) (by rw [g1]; exact Nat.le_of_ble_eq_true hb.2.1) (Nat.le_trans (Nat.le_of_ble_eq_true hb.2.2) (by decide)) (fun _ => rfl) (fun i v hv => ?_)
          have hi : i < n * ts.len := by
            have := (List.getElem?_eq_some_iff.1 hv).1
            rw [List.length_take] at this
            exact Nat.lt_of_lt_of_le this (Nat.min_le_left _ _)
          rw [List.getElem?_take, if_pos hi, List.getElem?_drop] at hv
          have h5 := k2 _ v hv
          rw [← Nat.add_assoc] at h5
          have hi2 := (List.getElem?_eq_some_iff.1 hv).1
          exact Fplus_new hs.fin (hQ _ _ ⟨j, _, by simp, hj, rfl, by omega, by omega⟩) h5
        · cases h
    · cases h
  · simp only [Tree.run, Option.some.injEq, Prod.mk.injEq] at h
    obtain ⟨rfl, rfl⟩ := h
    refine ⟨?_, fun j hj => by cases hj⟩
    rw [show u = .slice none 0 0 from hu]
    exact repT_nil _
  · cases h
theorem viewD_run (hs : Sees F r D H w) {t : Ty} {c : Cell} {x : t.den} {js : List Nat} (h : (viewD H t c).run = some (x, js)) {u : Value} (hu : c.rep F r u) {Q : Nat → Nat → Prop} (hQ : ∀ b o, Lent H r js b o → Q b o) :
    RepT (Fplus F w Q) t x u ∧ ∀ j ∈ js, ∃ ob, H j = some ob := by
  have hle := Fplus_le F w Q
  cases t with
  | sl ts => exact viewT_run hs h hu hQ
  | w k =>
    simp only [viewD] at h
    split at h
    · rename_i y hy
      simp only [Tree.run, Option.some.injEq, Prod.mk.injEq] at h
      obtain ⟨rfl, rfl⟩ := h
      exact ⟨(ofCell_rep hy hu).mono hle, fun j hj => by cases hj⟩
    · cases h
  | i k =>
    simp only [viewD] at h
    split at h
    · rename_i y hy
      simp only [Tree.run, Option.some.injEq, Prod.mk.injEq] at h
      obtain ⟨rfl, rfl⟩ := h
      exact ⟨(ofCell_rep hy hu).mono hle, fun j hj => by cases hj⟩
    · cases h
  | b =>
    simp only [viewD] at h
    split at h
    · rename_i y hy
      simp only [Tree.run, Option.some.injEq, Prod.mk.injEq] at h
      obtain ⟨rfl, rfl⟩ := h
      exact ⟨(ofCell_rep hy hu).mono hle, fun j hj => by cases hj⟩
    · cases h
  | str =>
    simp only [viewD] at h
    split at h
    · rename_i y hy
      simp only [Tree.run, Option.some.injEq, Prod.mk.injEq] at h
      obtain ⟨rfl, rfl⟩ := h
      exact ⟨(ofCell_rep hy hu).mono hle, fun j hj => by cases hj⟩
    · cases h
theorem viewDs_run (hs : Sees F r D H w) : ∀ {ts : Tys} {cs : List Cell} {x : ts.den} {js : List Nat} {us : List Value}, (viewDs H ts cs).run = some (x, js) → cellsRep F r cs us → ∀ {Q : Nat → Nat → Prop}, (∀ b o, Lent H r js b o → Q b o) →
    us.length = ts.len ∧ (∀ {G : Frag} {b o : Nat}, (∀ i v, us[i]? = some v → G b (o + i) = some v) → RepC G (Fplus F w Q) b o ts x) ∧ ∀ j ∈ js, ∃ ob, H j = some ob
  | .nil, [], x, js, us, h, hu, Q, hQ => by
    simp only [viewDs, Tree.run, Option.some.injEq, Prod.mk.injEq] at h
    obtain ⟨_, rfl⟩ := h
    cases us with
    | nil => exact ⟨rfl, fun {G b o} _ => by simp only [RepC], fun j hj => by cases hj⟩
    | cons a b => exact hu.elim
  | .nil, _ :: _, _, _, _, h, _, _, _ => by cases h
  | .cons _ _, [], _, _, _, h, _, _, _ => by cases h
  | .cons t ts, c :: cs, x, js, us, h, hu, Q, hQ => by
    simp only [viewDs] at h
    obtain ⟨⟨y, jy⟩, hy, h⟩ := Tree.run_bind_some h
    obtain ⟨⟨ys, jys⟩, hys, h⟩ := Tree.run_bind_some h
    simp only [Tree.run, Option.some.injEq, Prod.mk.injEq] at h
    obtain ⟨rfl, rfl⟩ := h
    cases us with
    | nil => exact hu.elim
    | cons u us =>
      obtain ⟨g1, g2⟩ := viewD_run hs hy hu.1 (Q := Q) (fun b o hl => hQ b o (hl.mono fun j hj => List.mem_append_left _ hj))
      obtain ⟨k1, k2, k3⟩ := viewDs_run hs hys hu.2 (Q := Q) (fun b o hl => hQ b o (hl.mono fun j hj => List.mem_append_right _ hj))
      refine ⟨by simp [k1, Tree.run, Tys.len], fun {G b o} hG => ?_, fun j hj => ?_⟩
      · simp only [RepC]
        refine ⟨⟨u, by simpa using hG 0 u rfl, g1⟩, k2 fun i v hv => ?_⟩
        have := hG (i + 1) v (by simpa using hv)
        rw [← this]; congr 1; omega
      · rcases List.mem_append.1 hj with hj | hj
        · exact g2 j hj
        · exact k3 j hj
end
end Go.Sz
