/-
  A symbolic machine for one call, with rows of any length: other names for the objects.
-/
import Derived.Test.YtoljppjibhnndaaSzR
namespace Go.Sz
open Go Go.RowKit Go.Sy
set_option linter.unusedVariables false
set_option linter.unusedSimpArgs false
set_option linter.constructorNameAsVariable false

/-! ### Names of objects: of places in cells, and of rows and maps -/
structure Ren where
  p : Nat → Nat → Option (Nat × Nat)
  h : Nat → Option Nat

def renK (σ : Ren) : Cap → Option Cap
  | .v x => some (.v x)
  | .w k x => some (.w k x)
  | .p j o => match σ.p j o with
    | some (k, o') => some (.p k o')
    | none => none
  | .h j => match σ.h j with
    | some k => some (.h k)
    | none => none
  | .d ts l => some (.d ts l)
  | .q ts x => some (.q ts x)
def renKs (σ : Ren) : List Cap → Option (List Cap)
  | [] => some []
  | c :: l => match renK σ c, renKs σ l with
    | some x, some y => some (x :: y)
    | _, _ => none
def renC (σ : Ren) : Cell → Option Cell
  | .v x => some (.v x)
  | .w k x => some (.w k x)
  | .p j o => match σ.p j o with
    | some (k, o') => some (.p k o')
    | none => none
  | .h j => match σ.h j with
    | some k => some (.h k)
    | none => none
  | .d ts l => some (.d ts l)
  | .q ts x => some (.q ts x)
  | .e j base n sz idx off => match σ.p j base with
    | some (k, b') => some (.e k b' n sz idx off)
    | none => none
  | .er j sz idx off => match σ.h j with
    | some k => some (.er k sz idx off)
    | none => none
  | .hs j sz lo len mx => match σ.h j with
    | some k => some (.hs k sz lo len mx)
    | none => none
  | .s j off sz len cap => match σ.p j off with
    | some (k, o') => some (.s k o' sz len cap)
    | none => none
  | .clo f caps => match renKs σ caps with
    | some c => some (.clo f c)
    | none => none
def renL (σ : Ren) : List Cell → Option (List Cell)
  | [] => some []
  | c :: l => match renC σ c, renL σ l with
    | some x, some y => some (x :: y)
    | _, _ => none
def renP (σ : Ren) : Part → Option Part
  | .one c => match renC σ c with
    | some x => some (.one x)
    | none => none
  | .many l => match renL σ l with
    | some x => some (.many x)
    | none => none
def renPs (σ : Ren) : List Part → Option (List Part)
  | [] => some []
  | c :: l => match renP σ c, renPs σ l with
    | some x, some y => some (x :: y)
    | _, _ => none
def renA (σ : Ren) : AV → Option AV
  | .p x => match renP σ x with
    | some y => some (.p y)
    | none => none
  | .t l => match renPs σ l with
    | some y => some (.t y)
    | none => none
def renAs (σ : Ren) : List AV → Option (List AV)
  | [] => some []
  | c :: l => match renA σ c, renAs σ l with
    | some x, some y => some (x :: y)
    | _, _ => none

/-- What the two ways to name have to do with each other. -/
structure RenOk (σ : Ren) (r r' : Loc) (D' : Nat → Prop) : Prop where
  p : ∀ j o k o', σ.p j o = some (k, o') → D' k ∧ (r j).b = (r' k).b ∧ (r j).o + o = (r' k).o + o'
  h : ∀ j k, σ.h j = some k → D' k ∧ r' k = r j

section
variable {σ : Ren} {r r' : Loc} {D' : Nat → Prop} (hσ : RenOk σ r r' D') {F : Frag}
include hσ

theorem renK_rep {c c' : Cap} (h : renK σ c = some c') : c'.inn D' ∧ ∀ u, c.rep F r u → c'.rep F r' u := by
  cases c with
  | v x => simp only [renK, Option.some.injEq] at h; subst h; exact ⟨trivial, fun u hu => hu⟩
  | w k x => simp only [renK, Option.some.injEq] at h; subst h; exact ⟨trivial, fun u hu => hu⟩
  | p j o =>
    simp only [renK] at h
    split at h
    · rename_i k o' hk
      injection h with h; subst h
      obtain ⟨h0, h1, h2⟩ := hσ.p _ _ _ _ hk
      exact ⟨h0, fun u hu => by simp only [Cap.rep] at *; rw [← h1, ← h2]; exact hu⟩
    · cases h
  | h j =>
    simp only [renK] at h
    split at h
    · rename_i k hk
      injection h with h; subst h
      obtain ⟨h0, h1⟩ := hσ.h _ _ hk
      exact ⟨h0, fun u hu => by simp only [Cap.rep] at *; rw [h1]; exact hu⟩
    · cases h
  | d ts l => simp only [renK, Option.some.injEq] at h; subst h; exact ⟨trivial, fun u hu => hu⟩
  | q ts x => simp only [renK, Option.some.injEq] at h; subst h; exact ⟨trivial, fun u hu => hu⟩

theorem renKs_rep : ∀ {c c' : List Cap}, renKs σ c = some c' → (∀ x ∈ c', x.inn D') ∧ ∀ u, capsRep F r c u → capsRep F r' c' u
  | [], c', h => by simp only [renKs, Option.some.injEq] at h; subst h; exact ⟨fun x hx => (by cases hx), fun u hu => (by cases u <;> exact hu)⟩
  | c :: l, c', h => by
    simp only [renKs] at h
    split at h
    · rename_i x y hx hy
      injection h with h; subst h
      obtain ⟨h1, h2⟩ := renK_rep hσ (F := F) hx
      obtain ⟨h3, h4⟩ := renKs_rep hy
      refine ⟨fun z hz => ?_, fun u hu => ?_⟩
      · rcases List.mem_cons.1 hz with rfl | hz
        · exact h1
        · exact h3 z hz
      · cases u with
        | nil => exact hu.elim
        | cons a b => exact ⟨h2 a hu.1, h4 b hu.2⟩
    · cases h

theorem renC_rep {c c' : Cell} (h : renC σ c = some c') : c'.inn D' ∧ ∀ u, c.rep F r u → c'.rep F r' u := by
  cases c with
  | v x => simp only [renC, Option.some.injEq] at h; subst h; exact ⟨trivial, fun u hu => hu⟩
  | w k x => simp only [renC, Option.some.injEq] at h; subst h; exact ⟨trivial, fun u hu => hu⟩
  | p j o =>
    simp only [renC] at h
    split at h
    · rename_i k o' hk
      injection h with h; subst h
      obtain ⟨h0, h1, h2⟩ := hσ.p _ _ _ _ hk
      exact ⟨h0, fun u hu => by simp only [Cell.rep] at *; rw [← h1, ← h2]; exact hu⟩
    · cases h
  | h j =>
    simp only [renC] at h
    split at h
    · rename_i k hk
      injection h with h; subst h
      obtain ⟨h0, h1⟩ := hσ.h _ _ hk
      exact ⟨h0, fun u hu => by simp only [Cell.rep] at *; rw [h1]; exact hu⟩
    · cases h
  | d ts l => simp only [renC, Option.some.injEq] at h; subst h; exact ⟨trivial, fun u hu => hu⟩
  | q ts x => simp only [renC, Option.some.injEq] at h; subst h; exact ⟨trivial, fun u hu => hu⟩
  | e j base n sz idx off =>
    simp only [renC] at h
    split at h
    · rename_i k o' hk
      injection h with h; subst h
      obtain ⟨h0, h1, h2⟩ := hσ.p _ _ _ _ hk
      refine ⟨h0, fun u hu => ?_⟩
      simp only [Cell.rep] at *
      rw [← h1, show (r' k).o + (o' + idx * sz + off) = (r j).o + (base + idx * sz + off) by omega]; exact hu
    · cases h
  | er j sz idx off =>
    simp only [renC] at h
    split at h
    · rename_i k hk
      injection h with h; subst h
      obtain ⟨h0, h1⟩ := hσ.h _ _ hk
      exact ⟨h0, fun u hu => by simp only [Cell.rep] at *; rw [h1]; exact hu⟩
    · cases h
  | hs j sz lo len mx =>
    simp only [renC] at h
    split at h
    · rename_i k hk
      injection h with h; subst h
      obtain ⟨h0, h1⟩ := hσ.h _ _ hk
      exact ⟨h0, fun u hu => by simp only [Cell.rep] at *; rw [h1]; exact hu⟩
    · cases h
  | s j off sz len cap =>
    simp only [renC] at h
    split at h
    · rename_i k o' hk
      injection h with h; subst h
      obtain ⟨h0, h1, h2⟩ := hσ.p _ _ _ _ hk
      exact ⟨h0, fun u hu => by simp only [Cell.rep] at *; rw [← h1, ← h2]; exact hu⟩
    · cases h
  | clo f caps =>
    simp only [renC] at h
    split at h
    · rename_i c hc
      injection h with h; subst h
      obtain ⟨h1, h2⟩ := renKs_rep hσ (F := F) hc
      refine ⟨h1, fun u hu => ?_⟩
      obtain ⟨vs, g1, g2⟩ := hu
      exact ⟨vs, h2 vs g1, g2⟩
    · cases h

theorem renL_rep : ∀ {c c' : List Cell}, renL σ c = some c' → c'.length = c.length ∧ (∀ x ∈ c', x.inn D') ∧ ∀ u, cellsRep F r c u → cellsRep F r' c' u
  | [], c', h => by simp only [renL, Option.some.injEq] at h; subst h; exact ⟨rfl, fun x hx => (by cases hx), fun u hu => (by cases u <;> exact hu)⟩
  | c :: l, c', h => by
    simp only [renL] at h
    split at h
    · rename_i x y hx hy
      injection h with h; subst h
      obtain ⟨h1, h2⟩ := renC_rep hσ (F := F) hx
      obtain ⟨h5, h3, h4⟩ := renL_rep hy
      refine ⟨by simp [h5], fun z hz => ?_, fun u hu => ?_⟩
      · rcases List.mem_cons.1 hz with rfl | hz
        · exact h1
        · exact h3 z hz
      · cases u with
        | nil => exact hu.elim
        | cons a b => exact ⟨h2 a hu.1, h4 b hu.2⟩
    · cases h

theorem renP_rep {c c' : Part} (h : renP σ c = some c') : c'.inn D' ∧ ∀ u, c.rep F r u → c'.rep F r' u := by
  cases c with
  | one c =>
    simp only [renP] at h
    split at h
    · rename_i x hx
      injection h with h; subst h
      exact renC_rep hσ hx
    · cases h
  | many l =>
    simp only [renP] at h
    split at h
    · rename_i x hx
      injection h with h; subst h
      obtain ⟨_, h1, h2⟩ := renL_rep hσ (F := F) hx
      refine ⟨h1, fun u hu => ?_⟩
      obtain ⟨vs, g1, g2⟩ := hu
      exact ⟨vs, h2 vs g1, g2⟩
    · cases h

theorem renPs_rep : ∀ {c c' : List Part}, renPs σ c = some c' → (∀ x ∈ c', x.inn D') ∧ ∀ u, partsRep F r c u → partsRep F r' c' u
  | [], c', h => by simp only [renPs, Option.some.injEq] at h; subst h; exact ⟨fun x hx => (by cases hx), fun u hu => (by cases u <;> exact hu)⟩
  | c :: l, c', h => by
    simp only [renPs] at h
    split at h
    · rename_i x y hx hy
      injection h with h; subst h
      obtain ⟨h1, h2⟩ := renP_rep hσ (F := F) hx
      obtain ⟨h3, h4⟩ := renPs_rep hy
      refine ⟨fun z hz => ?_, fun u hu => ?_⟩
      · rcases List.mem_cons.1 hz with rfl | hz
        · exact h1
        · exact h3 z hz
      · cases u with
        | nil => exact hu.elim
        | cons a b => exact ⟨h2 a hu.1, h4 b hu.2⟩
    · cases h

theorem renA_rep {c c' : AV} (h : renA σ c = some c') : c'.inn D' ∧ ∀ u, c.rep F r u → c'.rep F r' u := by
  cases c with
  | p c =>
    simp only [renA] at h
    split at h
    · rename_i x hx
      injection h with h; subst h
      exact renP_rep hσ hx
    · cases h
  | t l =>
    simp only [renA] at h
    split at h
    · rename_i x hx
      injection h with h; subst h
      obtain ⟨h1, h2⟩ := renPs_rep hσ (F := F) hx
      refine ⟨h1, fun u hu => ?_⟩
      obtain ⟨vs, g1, g2⟩ := hu
      exact ⟨vs, h2 vs g1, g2⟩
    · cases h

def avsRep (F : Frag) (r : Loc) : List AV → List Value → Prop
  | [], [] => True
  | c :: cs, v :: vs => c.rep F r v ∧ avsRep F r cs vs
  | _, _ => False

theorem renAs_rep : ∀ {c c' : List AV}, renAs σ c = some c' → (∀ x ∈ c', x.inn D') ∧ ∀ u, avsRep F r c u → avsRep F r' c' u
  | [], c', h => by simp only [renAs, Option.some.injEq] at h; subst h; exact ⟨fun x hx => (by cases hx), fun u hu => (by cases u <;> exact hu)⟩
  | c :: l, c', h => by
    simp only [renAs] at h
    split at h
    · rename_i x y hx hy
      injection h with h; subst h
      obtain ⟨h1, h2⟩ := renA_rep hσ (F := F) hx
      obtain ⟨h3, h4⟩ := renAs_rep hy
      refine ⟨fun z hz => ?_, fun u hu => ?_⟩
      · rcases List.mem_cons.1 hz with rfl | hz
        · exact h1
        · exact h3 z hz
      · cases u with
        | nil => exact hu.elim
        | cons a b => exact ⟨h2 a hu.1, h4 b hu.2⟩
    · cases h
end

/-! ### Without data that lie elsewhere -/
def flatB : Tys → Bool
  | .nil => true
  | .cons (.sl _) _ => false
  | .cons _ ts => flatB ts

def noDK : Cap → Bool
  | .d _ _ => false
  | .q _ _ => false
  | _ => true
def noDKs : List Cap → Bool
  | [] => true
  | c :: l => noDK c && noDKs l
def noDC : Cell → Bool
  | .d _ _ => false
  | .q _ _ => false
  | .clo _ caps => noDKs caps
  | _ => true
def noDL : List Cell → Bool
  | [] => true
  | c :: l => noDC c && noDL l
def noDP : Part → Bool
  | .one c => noDC c
  | .many l => noDL l
def noDPs : List Part → Bool
  | [] => true
  | c :: l => noDP c && noDPs l
def noDA : AV → Bool
  | .p x => noDP x
  | .t l => noDPs l
def flatTy : Ty → Bool
  | .sl _ => false
  | _ => true
def flatV : Vt → Bool
  | .one t => flatTy t
  | .many ts => flatB ts
def noDO : Ob → Bool
  | .lit l => noDL l
  | .row ts _ => flatB ts
  | .mp kt vt _ => flatTy kt && flatV vt
  | .dead => true
  | _ => false
def noDOs : List Ob → Bool
  | [] => true
  | c :: l => noDO c && noDOs l

section
variable {F F' : Frag} {r : Loc}

theorem noDK_rep {c : Cap} (h : noDK c = true) {u : Value} (hu : c.rep F r u) : c.rep F' r u := by
  cases c <;> first | exact hu | (simp [noDK] at h)
theorem noDKs_rep : ∀ {c : List Cap} (h : noDKs c = true) {u : List Value} (hu : capsRep F r c u), capsRep F' r c u
  | [], _, [], _ => trivial
  | [], _, _ :: _, h => h.elim
  | _ :: _, _, [], h => h.elim
  | c :: l, h, u :: us, hu => by
    simp only [noDKs, Bool.and_eq_true] at h
    exact ⟨noDK_rep h.1 hu.1, noDKs_rep h.2 hu.2⟩
theorem noDC_rep {c : Cell} (h : noDC c = true) {u : Value} (hu : c.rep F r u) : c.rep F' r u := by
  cases c with
  | d ts l => simp [noDC] at h
  | q ts x => simp [noDC] at h
  | clo f caps => obtain ⟨vs, g1, g2⟩ := hu; exact ⟨vs, noDKs_rep (by simpa [noDC] using h) g1, g2⟩
  | _ => exact hu
theorem noDL_rep : ∀ {c : List Cell} (h : noDL c = true) {u : List Value} (hu : cellsRep F r c u), cellsRep F' r c u
  | [], _, [], _ => trivial
  | [], _, _ :: _, h => h.elim
  | _ :: _, _, [], h => h.elim
  | c :: l, h, u :: us, hu => by
    simp only [noDL, Bool.and_eq_true] at h
    exact ⟨noDC_rep h.1 hu.1, noDL_rep h.2 hu.2⟩
theorem noDP_rep {c : Part} (h : noDP c = true) {u : Value} (hu : c.rep F r u) : c.rep F' r u := by
  cases c with
  | one c => exact noDC_rep h hu
  | many l => obtain ⟨vs, g1, g2⟩ := hu; exact ⟨vs, noDL_rep h g1, g2⟩
theorem noDPs_rep : ∀ {c : List Part} (h : noDPs c = true) {u : List Value} (hu : partsRep F r c u), partsRep F' r c u
  | [], _, [], _ => trivial
  | [], _, _ :: _, h => h.elim
  | _ :: _, _, [], h => h.elim
  | c :: l, h, u :: us, hu => by
    simp only [noDPs, Bool.and_eq_true] at h
    exact ⟨noDP_rep h.1 hu.1, noDPs_rep h.2 hu.2⟩
theorem noDA_rep {c : AV} (h : noDA c = true) {u : Value} (hu : c.rep F r u) : c.rep F' r u := by
  cases c with
  | p c => exact noDP_rep h hu
  | t l => obtain ⟨vs, g1, g2⟩ := hu; exact ⟨vs, noDPs_rep h g1, g2⟩

theorem flatB_rep {G : Frag} : ∀ {ts : Tys} {x : ts.den} {b o : Nat}, flatB ts = true → RepC G F b o ts x → RepC G F' b o ts x
  | .nil, _, _, _, _, h => by simp only [RepC]
  | .cons (.w k) ts, x, b, o, h, hr => by
    simp only [RepC, RepT, flatB] at *; exact ⟨hr.1, flatB_rep h hr.2⟩
  | .cons (.i k) ts, x, b, o, h, hr => by
    simp only [RepC, RepT, flatB] at *; exact ⟨hr.1, flatB_rep h hr.2⟩
  | .cons .b ts, x, b, o, h, hr => by
    simp only [RepC, RepT, flatB] at *; exact ⟨hr.1, flatB_rep h hr.2⟩
  | .cons .str ts, x, b, o, h, hr => by
    simp only [RepC, RepT, flatB] at *; exact ⟨hr.1, flatB_rep h hr.2⟩
  | .cons (.sl _) ts, x, b, o, h, hr => by simp [flatB] at h

theorem flatTy_rep : ∀ {t : Ty} {x : t.den} {v : Value}, flatTy t = true → RepT F t x v → RepT F' t x v
  | .w _, _, _, _, h => h
  | .i _, _, _, _, h => h
  | .b, _, _, _, h => h
  | .str, _, _, _, h => h
  | .sl _, _, _, h, _ => by cases h
theorem flatL_rep : ∀ {ts : Tys} {x : ts.den} {vs : List Value}, flatB ts = true → RepL F ts x vs → RepL F' ts x vs
  | .nil, _, [], _, _ => trivial
  | .nil, _, _ :: _, _, h => h.elim
  | .cons _ _, _, [], _, h => h.elim
  | .cons t ts, x, v :: vs, hb, h => by
    have hb2 : flatTy t = true ∧ flatB ts = true := by cases t <;> simp_all [flatB, flatTy]
    exact ⟨flatTy_rep hb2.1 h.1, flatL_rep hb2.2 h.2⟩
theorem flatV_rep {t : Vt} {x : t.den} {v : Value} (hb : flatV t = true) (h : RepV F t x v) : RepV F' t x v := by
  cases t with
  | one t => exact flatTy_rep hb h
  | many ts => obtain ⟨vs, h1, h2⟩ := h; exact ⟨vs, flatL_rep hb h1, h2⟩
theorem noDO_rep {ob : Ob} (h : noDO ob = true) {d : Ld} {w : World} (hu : ObIs F r d w ob) : ObIs F' r d w ob := by
  cases ob with
  | lit l => obtain ⟨vs, g1, g2⟩ := hu; exact ⟨vs, noDL_rep h g1, g2⟩
  | row ts l =>
    rcases hu with hu | ⟨cap, h1, h2, h3, h4, h5⟩
    · exact .inl hu
    · exact .inr ⟨cap, h1, h2, h3, h4, fun i x hx => flatB_rep h (h5 i x hx)⟩
  | dead => trivial
  | frz ts l => simp [noDO] at h
  | mp kt vt m =>
    simp only [noDO, Bool.and_eq_true] at h
    obtain ⟨h0, es, clock, h1, h2, h3⟩ := hu
    refine ⟨h0, es, clock, h1, ?_, h3⟩
    have key : ∀ (m : List (kt.den × vt.den)) (es : List MapEntry), entriesRep F kt vt m es → entriesRep F' kt vt m es := by
      intro m
      induction m with
      | nil => intro es h; cases es <;> first | trivial | exact h.elim
      | cons x m ih =>
        intro es hh
        cases es with
        | nil => exact hh.elim
        | cons e es => exact ⟨flatTy_rep h.1 hh.1, flatV_rep h.2 hh.2.1, ih es hh.2.2⟩
    exact key _ _ h2

theorem noDOs_mem : ∀ {l : List Ob}, noDOs l = true → ∀ ob ∈ l, noDO ob = true
  | [], _, ob, h => by cases h
  | c :: l, h, ob, hm => by
    simp only [noDOs, Bool.and_eq_true] at h
    rcases List.mem_cons.1 hm with rfl | hm
    · exact h.1
    · exact noDOs_mem h.2 ob hm
end
end Go.Sz
