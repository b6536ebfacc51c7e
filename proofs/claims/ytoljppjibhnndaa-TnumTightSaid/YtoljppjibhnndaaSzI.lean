/-
  A symbolic machine for one call, with rows of any length: how objects are made, turned, given away.
-/
import Derived.Test.YtoljppjibhnndaaSzH
import Derived.ArgAppend
import Derived.Laws.MakeOwn
import Derived.Laws.IdiomStrings
namespace Go.Sz
open Go Go.RowKit Go.Sy
set_option linter.unusedVariables false
set_option linter.unusedSimpArgs false
set_option linter.constructorNameAsVariable false

theorem Fr.setCells (w : World) (b o : Nat) (vs : List Value) (ht : w.there b o vs.length) : Fr (fun b' o' => b' = b ∧ o ≤ o' ∧ o' < o + vs.length) w (w.setCells b o vs) := by
  have main : ∀ (vs : List Value) (o : Nat) (w : World), (w.setCells b o vs).os = w.os ∧ (w.setCells b o vs).tape = w.tape ∧ (w.setCells b o vs).output = w.output ∧ (w.setCells b o vs).heap.size = w.heap.size ∧
      ∀ k, k ≠ b → (w.setCells b o vs).heap[k]? = w.heap[k]? := by
    intro vs
    induction vs with
    | nil => intro o w; exact ⟨rfl, rfl, rfl, rfl, fun _ _ => rfl⟩
    | cons v vs ih =>
      intro o w
      obtain ⟨h1, h2, h3, h4, h5⟩ := ih (o + 1) (w.setCell ⟨b, o, none⟩ v)
      refine ⟨h1, h2, h3, by rw [World.setCells, h4]; simp, fun k hk => ?_⟩
      rw [World.setCells, h5 k hk]
      exact Below.heap_setCell _ _ _ _ hk
  obtain ⟨h1, h2, h3, h4, h5⟩ := main vs o w
  refine ⟨h1, h2, h3, Nat.le_of_eq h4.symm, fun b' o' _ hn => ?_, fun b' o' _ => World.frozen?_setCells b vs o w _, fun b' hb' hn => ?_⟩
  · refine World.cell?_setCells_out b vs o w _ (fun e _ => ?_)
    simp only [] at e ⊢
    rcases Nat.lt_or_ge o' o with h | h
    · exact .inl h
    · exact .inr (by rcases Nat.lt_or_ge o' (o + vs.length) with h' | h'
                     · exact absurd ⟨e, h, h'⟩ hn
                     · exact h')
  · by_cases hv : vs.length = 0
    · have : vs = [] := List.length_eq_zero_iff.1 hv
      subst this; rfl
    · refine h5 b' (fun e => hn o ⟨e, Nat.le_refl _, by omega⟩)


def updH : List (Nat × Ob) → Hf → Hf
  | [], H => H
  | (k, ob) :: l, H => fun j => bif Nat.beq k j then some ob else updH l H j

theorem updH_cons (k : Nat) (ob : Ob) (l : List (Nat × Ob)) (H : Hf) (j : Nat) : updH ((k, ob) :: l) H j = if k = j then some ob else updH l H j := by
  simp only [updH]
  by_cases h : k = j
  · subst h; simp
  · have : Nat.beq k j = false := by
      cases hb : Nat.beq k j with
      | false => rfl
      | true => exact absurd (Nat.eq_of_beq_eq_true hb) h
    rw [this, if_neg h]; rfl

def deads : List Nat → List (Nat × Ob)
  | [] => []
  | j :: js => (j, .dead) :: deads js

theorem updH_deads {H : Hf} : ∀ {js : List Nat} {j : Nat} {ob : Ob}, updH (deads js) H j = some ob → (j ∈ js ∧ ob = .dead) ∨ (j ∉ js ∧ H j = some ob)
  | [], j, ob, h => .inr ⟨by simp, h⟩
  | k :: js, j, ob, h => by
    simp only [deads] at h
    rw [updH_cons] at h
    split at h
    · rename_i e; subst e; injection h with h; exact .inl ⟨by simp, h.symm⟩
    · rename_i e
      rcases updH_deads h with ⟨h1, h2⟩ | ⟨h1, h2⟩
      · exact .inl ⟨List.mem_cons_of_mem _ h1, h2⟩
      · exact .inr ⟨by simp [h1, Ne.symm e], h2⟩

def locPut (r : Loc) (n : Nat) (x : Ld) : Loc := fun j => if j = n then x else r j

theorem locPut_agree {D : Nat → Prop} (r : Loc) {n : Nat} (hn : ¬ D n) (x : Ld) : Loc.agree D r (locPut r n x) := fun j hj => by
  unfold locPut; rw [if_neg (fun e => by subst e; exact hn hj)]
theorem locPut_self (r : Loc) (n : Nat) (x : Ld) : locPut r n x n = x := by simp [locPut]

section
variable {w0 : World} {S : Nat → Nat → Prop} {R0 : Frag} {D : Nat → Prop} {H : Hf} {F : Frag} {r : Loc} {w : World}

/-- An object turns where it lies. -/
theorem Mem.renew (h : Mem w0 S R0 D H F r w) {k : Nat} {ob0 ob : Ob} (hk : H k = some ob0) {w' : World} (hob : ObIs F r (r k) w' ob) (hinn : ob.inn D)
    (hfoot : ∀ b o, ob.foot (r k) b o → ob0.foot (r k) b o) (hf : Fr (ob0.foot (r k)) w w') : Mem w0 S R0 D (updH [(k, ob)] H) F r w' := by
  refine h.step (T := fun j => j = k) (fun _ h => h) (fun _ _ => rfl) (fun j o hn hj => ?_) (fun j o hj ho => ?_) (fun j o b p hj ho hfo => ?_) (fun j j' o o' b p hj hj' _ _ hne _ _ => ?_) ?_ (Frag.le_refl F) (fun b o v hv => .inl hv)
  · rw [updH_cons, if_neg (fun e => hn e.symm)] at hj; exact hj
  · subst hj
    rw [updH_cons, if_pos rfl] at ho
    injection ho with ho; subst ho
    exact ⟨h.dom _ _ hk, hob, hinn⟩
  · subst hj
    rw [updH_cons, if_pos rfl] at ho
    injection ho with ho; subst ho
    exact .inl ⟨j, ob0, rfl, hk, hfoot b p hfo⟩
  · exact hne (hj.trans hj'.symm)
  · exact hf.mono fun b o _ hs => ⟨k, ob0, rfl, hk, hs⟩

/-- A new object; others die for it. -/
theorem Mem.fresh' (h : Mem w0 S R0 D H F r w) {k : Nat} (hk : ¬ D k) {js : List Nat} (hjs : ∀ j ∈ js, D j) {d : Ld} {ob : Ob} {w' : World} (hob : ObIs F (locPut r k d) d w' ob) (hinn : ob.inn (fun j => D j ∨ j = k))
    (hfoot : ∀ b o, ob.foot d b o → (∃ j ob0, j ∈ js ∧ H j = some ob0 ∧ ob0.foot (r j) b o) ∨ w.heap.size ≤ b)
    (hf : Fr (fun b o => ∃ j ob0, j ∈ js ∧ H j = some ob0 ∧ ob0.foot (r j) b o) w w') :
    Mem w0 S R0 (fun j => D j ∨ j = k) (updH ((k, ob) :: deads js) H) F (locPut r k d) w' := by
  have hget : ∀ j o, updH ((k, ob) :: deads js) H j = some o → (j = k ∧ o = ob) ∨ (j ≠ k ∧ j ∈ js ∧ o = .dead) ∨ (j ≠ k ∧ j ∉ js ∧ H j = some o) := fun j o hj => by
    rw [updH_cons] at hj
    split at hj
    · rename_i e; injection hj with hj; exact .inl ⟨e.symm, hj.symm⟩
    · rename_i e
      rcases updH_deads hj with ⟨h1, h2⟩ | ⟨h1, h2⟩
      · exact .inr (.inl ⟨Ne.symm e, h1, h2⟩)
      · exact .inr (.inr ⟨Ne.symm e, h1, h2⟩)
  refine h.step (T := fun j => j = k ∨ (j ∈ js ∧ D j)) (fun _ h => .inl h) (locPut_agree r hk d) (fun j o hn hj => ?_) (fun j o hj ho => ?_) (fun j o b p hj ho hfo => ?_) (fun j j' o o' b p hj hj' ho ho' hne hb hb' => ?_) ?_ (Frag.le_refl F) (fun b o v hv => .inl hv)
  · rcases hget j o hj with ⟨rfl, rfl⟩ | ⟨_, h1, h2⟩ | ⟨_, _, h3⟩
    · exact absurd (.inl rfl) hn
    · subst h2
      exact absurd (.inr ⟨h1, hjs j h1⟩) hn
    · exact h3
  · rcases hget j o ho with ⟨rfl, rfl⟩ | ⟨_, h1, rfl⟩ | ⟨h1, h2, h3⟩
    · rw [locPut_self]; exact ⟨.inr rfl, hob, hinn⟩
    · rcases hj with hj | hj
      · exact absurd hj (by assumption)
      · exact ⟨.inl hj.2, trivial, trivial⟩
    · rcases hj with hj | hj
      · exact absurd hj h1
      · exact absurd hj.1 h2
  · rcases hget j o ho with ⟨rfl, rfl⟩ | ⟨_, h1, rfl⟩ | ⟨h1, h2, h3⟩
    · rw [locPut_self] at hfo
      rcases hfoot b p hfo with ⟨j0, ob0, g1, g2, g3⟩ | g
      · exact .inl ⟨j0, ob0, .inr ⟨g1, h.dom _ _ g2⟩, g2, g3⟩
      · exact .inr g
    · exact hfo.elim
    · rcases hj with hj | hj
      · exact absurd hj h1
      · exact absurd hj.1 h2
  · rcases hget j o ho with ⟨e, _⟩ | ⟨_, _, rfl⟩ | ⟨e1, e2, e3⟩
    · rcases hget j' o' ho' with ⟨e', _⟩ | ⟨_, _, rfl⟩ | ⟨e1', e2', e3'⟩
      · exact hne (e.trans e'.symm)
      · exact hb'
      · rcases hj' with h' | h'
        · exact e1' h'
        · exact e2' h'.1
    · exact hb
    · rcases hj with h' | h'
      · exact e1 h'
      · exact e2 h'.1
  · exact hf.mono fun b o _ ⟨j, ob0, g1, g2, g3⟩ => ⟨j, ob0, .inr ⟨g1, h.dom _ _ g2⟩, g2, g3⟩
end
end Go.Sz
