/-
  A symbolic machine for one call: a row of data told as a row of cells (so that numbers that are not known may be stored in it).
-/
import Derived.Test.YtfbldjaepenfpaaGreatDoorSzLT
noncomputable section
namespace Go.Sz
open Go Go.RowKit Go.Sy
set_option linter.unusedVariables false
set_option linter.unusedSimpArgs false
set_option linter.constructorNameAsVariable false
def tC : (t : Ty) → t.den → Cell
  | .w k, x => .w k x
  | .i k, n => .v (.int k n)
  | .b, x => .v (.bool x)
  | .str, s => .v (.string s)
  | .sl ts, l => .d ts l
def tCs : (ts : Tys) → ts.den → List Cell
  | .nil, _ => []
  | .cons t ts, x => tC t x.1 :: tCs ts x.2
def tRs (ts : Tys) : List ts.den → List Cell
  | [] => []
  | x :: l => tCs ts x ++ tRs ts l
section
variable {F : Frag} {r : Loc}
theorem tC_rep : ∀ {t : Ty} {x : t.den} {v : Value}, RepT F t x v ↔ (tC t x).rep F r v
  | .w _, _, _ => Iff.rfl
  | .i _, _, _ => Iff.rfl
  | .b, _, _ => Iff.rfl
  | .str, _, _ => Iff.rfl
  | .sl _, _, _ => Iff.rfl
theorem tCs_len : ∀ (ts : Tys) (x : ts.den), (tCs ts x).length = ts.len
  | .nil, _ => rfl
  | .cons t ts, x => by simp only [tCs, List.length_cons, tCs_len ts x.2, Tys.len]
theorem tRs_len (ts : Tys) : ∀ (l : List ts.den), (tRs ts l).length = l.length * ts.len
  | [] => by simp [tRs]
  | x :: l => by simp only [tRs, List.length_append, tCs_len, tRs_len ts l, List.length_cons, Nat.succ_mul]; omega
theorem tCs_of {w : World} : ∀ {ts : Tys} {b o : Nat} {x : ts.den}, RepC (memF w) F b o ts x → ∃ vs, cellsRep F r (tCs ts x) vs ∧ w.rangeAt b o vs ∧ (∀ v ∈ vs, v.oneCell' = true)
  | .nil, _, _, _, _ => ⟨[], trivial, fun j v h => by simp at h, fun v h => by cases h⟩
  | .cons t ts, b, o, x, h => by
    simp only [RepC] at h
    obtain ⟨⟨v, h1, h2⟩, h3⟩ := h
    obtain ⟨vs, g1, g2, g3⟩ := tCs_of h3
    refine ⟨v :: vs, ⟨tC_rep.1 h2, g1⟩, fun j u hj => ?_, fun u hu => ?_⟩
    · cases j with
      | zero => simp only [List.getElem?_cons_zero, Option.some.injEq] at hj; subst hj; exact h1
      | succ j =>
        have := g2 j u (by simpa using hj)
        rw [← this]; congr 1; simp only [Addr.mk.injEq, true_and, and_true]; omega
    · rcases List.mem_cons.1 hu with rfl | hu
      · exact h2.one
      · exact g3 u hu
theorem tRs_of {w : World} {ts : Tys} {b : Nat} : ∀ {l : List ts.den} {o : Nat}, (∀ i x, l[i]? = some x → RepC (memF w) F b (o + i * ts.len) ts x) →
    ∃ vs, cellsRep F r (tRs ts l) vs ∧ w.rangeAt b o vs ∧ (∀ v ∈ vs, v.oneCell' = true)
  | [], _, _ => ⟨[], trivial, fun j v h => by simp at h, fun v h => by cases h⟩
  | x :: l, o, h => by
    obtain ⟨us, a1, a2, a3⟩ : ∃ vs, cellsRep F r (tCs ts x) vs ∧ w.rangeAt b o vs ∧ (∀ v ∈ vs, v.oneCell' = true) := tCs_of (by simpa using h 0 x rfl)
    obtain ⟨vs, g1, g2, g3⟩ : ∃ vs, cellsRep F r (tRs ts l) vs ∧ w.rangeAt b (o + ts.len) vs ∧ (∀ v ∈ vs, v.oneCell' = true) := tRs_of fun i y hi => by
      have := h (i + 1) y (by simpa using hi)
      rw [Nat.succ_mul] at this
      rw [show o + ts.len + i * ts.len = o + (i * ts.len + ts.len) by omega]
      exact this
    have hl : us.length = ts.len := by rw [cellsRep_length a1, tCs_len]
    refine ⟨us ++ vs, cellsRep_append a1 g1, fun j u hj => ?_, fun u hu => ?_⟩
    · rcases Nat.lt_or_ge j us.length with hlt | hge
      · rw [List.getElem?_append_left hlt] at hj
        have := a2 j u hj
        rw [← this]
      · rw [List.getElem?_append_right hge] at hj
        have := g2 _ u hj
        rw [← this]; congr 1; simp only [Addr.mk.injEq, true_and, and_true]; omega
    · rcases List.mem_append.1 hu with hu | hu
      · exact a3 u hu
      · exact g3 u hu
end
theorem tCs_inn {D : Nat → Prop} : ∀ {ts : Tys} {x : ts.den}, ∀ c ∈ tCs ts x, c.inn D
  | .nil, _, c, h => by cases h
  | .cons t ts, x, c, h => by
    rcases List.mem_cons.1 h with rfl | h
    · cases t <;> trivial
    · exact tCs_inn c h
theorem tRs_inn {D : Nat → Prop} {ts : Tys} : ∀ {l : List ts.den}, ∀ c ∈ tRs ts l, c.inn D
  | [], c, h => by cases h
  | x :: l, c, h => by
    rcases List.mem_append.1 h with h | h
    · exact tCs_inn c h
    · exact tRs_inn c h
def thawO : Ob → Ob
  | .row ts l => .lr ts.len l.length (tRs ts l)
  | o => o
theorem thawO_is {F : Frag} {r : Loc} {d : Ld} {w : World} {ob : Ob} (h : ObIs F r d w ob) : ObIs F r d w (thawO ob) := by
  cases ob with
  | row ts l =>
    rcases h with ⟨h1, h2⟩ | ⟨cap, h1, h2, h3, h4, h5⟩
    · subst h2; exact .inl ⟨h1, rfl, rfl⟩
    · obtain ⟨vs, g1, g2, g3⟩ : ∃ vs, cellsRep F r (tRs ts l) vs ∧ w.rangeAt d.b d.o vs ∧ (∀ v ∈ vs, v.oneCell' = true) := tRs_of h5
      exact .inr ⟨cap, vs, h1, tRs_len ts l, h2, h3, h4, g1, g2, g3⟩
  | _ => exact h
theorem thawO_foot {d : Ld} {x y : Nat} {ob : Ob} (h : (thawO ob).foot d x y) : ob.foot d x y := by
  cases ob <;> exact h
theorem thawO_inn {D : Nat → Prop} {ob : Ob} (h : ob.inn D) : (thawO ob).inn D := by
  cases ob with
  | row ts l => exact fun c hc => tRs_inn c hc
  | _ => exact h
def thawH (H : Hf) (j : Nat) : Hf := fun k => bif Nat.beq k j then (H k).map thawO else H k
theorem thawH_of {H : Hf} {j k : Nat} {ob2 : Ob} (h : thawH H j k = some ob2) : ∃ ob, H k = some ob ∧ (ob2 = ob ∨ ob2 = thawO ob) := by
  unfold thawH at h
  cases hb : Nat.beq k j with
  | false => rw [hb] at h; exact ⟨ob2, h, .inl rfl⟩
  | true =>
    rw [hb] at h
    obtain ⟨ob, h1, rfl⟩ := Option.map_eq_some_iff.1 h
    exact ⟨ob, h1, .inr rfl⟩
theorem thawH_sub {H Hr : Hf} {j : Nat} (hs : ∀ k ob, Hr k = some ob → H k = some ob) : ∀ k ob, thawH Hr j k = some ob → thawH H j k = some ob := fun k ob h => by
  unfold thawH at h ⊢
  cases hb : Nat.beq k j with
  | false => rw [hb] at h; exact hs k ob h
  | true =>
    rw [hb] at h
    obtain ⟨o, h1, rfl⟩ := Option.map_eq_some_iff.1 h
    rw [cond_true, hs k o h1]; rfl
theorem thawH_upd {H : Hf} {j : Nat} {o : Ob} : updH [(j, o)] (thawH H j) = updH [(j, o)] H := by
  funext k
  rw [updH_cons, updH_cons]
  by_cases hk : j = k
  · rw [if_pos hk, if_pos hk]
  · rw [if_neg hk, if_neg hk]
    show thawH H j k = H k
    unfold thawH
    have : Nat.beq k j = false := by
      cases hb : Nat.beq k j with
      | false => rfl
      | true => exact absurd (Nat.eq_of_beq_eq_true hb).symm hk
    rw [this]; rfl
theorem Mem.thaw {w0 : World} {S : Nat → Nat → Prop} {R0 : Frag} {D : Nat → Prop} {H : Hf} {F : Frag} {r : Loc} {w : World} (hm : Mem w0 S R0 D H F r w) (j : Nat) : Mem w0 S R0 D (thawH H j) F r w := by
  have key : ∀ {k : Nat} {ob2 : Ob}, thawH H j k = some ob2 → ∃ ob, H k = some ob ∧ (ObIs F r (r k) w ob → ObIs F r (r k) w ob2) ∧ (∀ d x y, ob2.foot d x y → ob.foot d x y) ∧ (∀ D : Nat → Prop, ob.inn D → ob2.inn D) := fun {k ob2} h => by
    obtain ⟨ob, h1, h2⟩ := thawH_of h
    rcases h2 with rfl | rfl
    · exact ⟨_, h1, fun h => h, fun _ _ _ h => h, fun _ h => h⟩
    · exact ⟨ob, h1, thawO_is, fun _ _ _ => thawO_foot, fun _ => thawO_inn⟩
  exact {
    obs := fun k ob2 h2 => by obtain ⟨ob, h1, q1, _, _⟩ := key h2; exact q1 (hm.obs k ob h1)
    dom := fun k ob2 h2 => by obtain ⟨ob, h1, _⟩ := key h2; exact hm.dom k ob h1
    scp := fun k ob2 h2 => by obtain ⟨ob, h1, _, _, q3⟩ := key h2; exact q3 _ (hm.scp k ob h1)
    disj := fun k k' ob ob' b o h1 h2 hne hf hf' => by
      obtain ⟨x, e1, _, q1, _⟩ := key h1
      obtain ⟨y, e2, _, q2, _⟩ := key h2
      exact hm.disj k k' x y b o e1 e2 hne (q1 _ _ _ hf) (q2 _ _ _ hf')
    fin := hm.fin
    fown := fun b o v k ob hF h1 hf => by obtain ⟨x, e1, _, q1, _⟩ := key h1; exact hm.fown b o v k x hF e1 (q1 _ _ _ hf)
    frame := hm.frame
    fresh := fun k ob b o h1 hf => by obtain ⟨x, e1, _, q1, _⟩ := key h1; exact hm.fresh k x b o e1 (q1 _ _ _ hf)
    base := hm.base
    prov := hm.prov }
def hasYc : List Cell → Bool
  | [] => false
  | .y _ _ :: _ => true
  | _ :: l => hasYc l
def isRowO : Option Ob → Bool
  | some (.row _ _) => true
  | _ => false
end Go.Sz
