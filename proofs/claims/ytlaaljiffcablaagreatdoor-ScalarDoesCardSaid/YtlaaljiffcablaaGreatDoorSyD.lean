/-
  A symbolic machine for one call: the memory's relation, and the operations that act.
-/
import Derived.Test.YtlaaljiffcablaaGreatDoorSyC
namespace Go.Sy
open Go Go.RowKit

/-! ### What has turned -/
structure Fr (S : Nat → Nat → Prop) (w w' : World) : Prop where
  os : w'.os = w.os
  tape : w'.tape = w.tape
  output : w'.output = w.output
  size : w.heap.size ≤ w'.heap.size
  cell : ∀ b o, b < w.heap.size → ¬ S b o → w'.cell? ⟨b, o, none⟩ = w.cell? ⟨b, o, none⟩
  frozen : ∀ b o, b < w.heap.size → w'.frozen? ⟨b, o, none⟩ = w.frozen? ⟨b, o, none⟩
  block : ∀ b, b < w.heap.size → (∀ o, ¬ S b o) → w'.heap[b]? = w.heap[b]?

theorem Fr.refl (S : Nat → Nat → Prop) (w : World) : Fr S w w := ⟨rfl, rfl, rfl, Nat.le_refl _, fun _ _ _ _ => rfl, fun _ _ _ => rfl, fun _ _ _ => rfl⟩

theorem Fr.trans {S S' : Nat → Nat → Prop} {w w1 w2 : World} (h : Fr S w w1) (k : Fr S' w1 w2) (hS : ∀ b o, b < w.heap.size → S' b o → S b o) : Fr S w w2 where
  os := k.os.trans h.os
  tape := k.tape.trans h.tape
  output := k.output.trans h.output
  size := Nat.le_trans h.size k.size
  cell b o hb hn := (k.cell b o (Nat.lt_of_lt_of_le hb h.size) (fun hs => hn (hS b o hb hs))).trans (h.cell b o hb hn)
  frozen b o hb := (k.frozen b o (Nat.lt_of_lt_of_le hb h.size)).trans (h.frozen b o hb)
  block b hb hn := (k.block b (Nat.lt_of_lt_of_le hb h.size) (fun o hs => hn o (hS b o hb hs))).trans (h.block b hb hn)

theorem Fr.of_below {w w' : World} (h : Below w.heap.size w w') (S : Nat → Nat → Prop) : Fr S w w' :=
  ⟨h.os, h.tape, h.output, h.size, fun b o hb _ => h.cell (p := ⟨b, o, none⟩) hb, fun b o hb => h.frozen (p := ⟨b, o, none⟩) hb, fun b hb _ => h.block b hb⟩

theorem Fr.below {S : Nat → Nat → Prop} {w w' : World} (h : Fr S w w') (hS : ∀ b o, ¬ S b o) : Below w.heap.size w w' :=
  ⟨h.os, h.tape, h.output, h.size, fun k hk => h.block k hk (hS k)⟩

theorem Fr.drew {S : Nat → Nat → Prop} {w w' : World} (h : Fr S w w') : Fr S w w'.drew :=
  ⟨h.os, h.tape, h.output, h.size, h.cell, h.frozen, h.block⟩

/-! ### The relation -/
def Disj (r : Loc) (hp : Hp) : Prop := ∀ j j' l l' i i', hp[j]? = some l → hp[j']? = some l' → j ≠ j' → i < l.length → i' < l'.length →
  ¬ ((r j).1 = (r j').1 ∧ (r j).2 + i = (r j').2 + i')

def Rng (r : Loc) (hp : Hp) (b o : Nat) : Prop := ∃ j l i, hp[j]? = some l ∧ i < l.length ∧ b = (r j).1 ∧ o = (r j).2 + i

structure Mem (w0 : World) (S : Nat → Nat → Prop) (m : Nat) (r0 r : Loc) (hp : Hp) (w : World) : Prop where
  heap : HeapIs r hp w
  disj : Disj r hp
  hlt : ∀ l ∈ hp, ∀ c ∈ l, c.lt hp.length
  frame : Fr S w0 w
  fresh : ∀ b o, Rng r hp b o → w0.heap.size ≤ b ∨ S b o
  par : Loc.agree m r0 r
  mle : m ≤ hp.length

theorem HeapIs.lt {r : Loc} {hp : Hp} {w : World} (h : HeapIs r hp w) {j : Nat} {l : List Cell} (hj : hp[j]? = some l) {i : Nat} (hi : i < l.length) : (r j).1 < w.heap.size := by
  have h1 := (h j l hj).1 i ((denCells r l)[i]'(by rw [denCells_length]; exact hi)) (List.getElem?_eq_getElem _)
  exact World.block_lt_of_cell? w ⟨(r j).1, (r j).2 + i, none⟩ h1

theorem HeapIs.of_fr {r : Loc} {hp : Hp} {w w' : World} (h : HeapIs r hp w) {S : Nat → Nat → Prop} (f : Fr S w w') (hS : ∀ b o, Rng r hp b o → ¬ S b o) : HeapIs r hp w' := by
  intro j l hj
  obtain ⟨h1, h2⟩ := h j l hj
  refine ⟨fun i v hv => ?_, fun i hi => ?_⟩
  · have hi : i < l.length := by have := (List.getElem?_eq_some_iff.1 hv).1; rwa [denCells_length] at this
    rw [f.cell _ _ (h.lt hj hi) (hS _ _ ⟨j, l, i, hj, hi, rfl, rfl⟩)]
    exact h1 i v hv
  · rw [f.cell _ _ (h.lt hj hi) (hS _ _ ⟨j, l, i, hj, hi, rfl, rfl⟩), f.frozen _ _ (h.lt hj hi)]
    exact h2 i hi

theorem Mem.drew {w0 : World} {S : Nat → Nat → Prop} {m : Nat} {r0 r : Loc} {hp : Hp} {w : World} (h : Mem w0 S m r0 r hp w) : Mem w0 S m r0 r hp w.drew :=
  ⟨h.heap, h.disj, h.hlt, h.frame.drew, h.fresh, h.par, h.mle⟩

/-! ### A new object -/
def locPut (r : Loc) (n : Nat) (x : Nat × Nat) : Loc := fun j => if j = n then x else r j

theorem locPut_agree (r : Loc) (n : Nat) (x : Nat × Nat) : Loc.agree n r (locPut r n x) := fun j hj => by
  unfold locPut; rw [if_neg (by omega)]

theorem HeapIs.append {r : Loc} {hp : Hp} {w : World} (h : HeapIs r hp w) {r' : Loc} (ha : Loc.agree hp.length r r') (hlt : ∀ l ∈ hp, ∀ c ∈ l, c.lt hp.length)
    {cs : List Cell} (hn : w.rangeAt (r' hp.length).1 (r' hp.length).2 (denCells r' cs) ∧ w.there (r' hp.length).1 (r' hp.length).2 cs.length) : HeapIs r' (hp ++ [cs]) w := by
  intro j l hj
  by_cases hjl : j < hp.length
  · rw [List.getElem?_append_left hjl] at hj
    obtain ⟨h1, h2⟩ := h j l hj
    rw [ha j hjl, denCells_agree ha (hlt l (List.mem_of_getElem? hj))]
    exact ⟨h1, h2⟩
  · rw [List.getElem?_append_right (by omega)] at hj
    have : j = hp.length := by
      rcases Nat.lt_or_ge (j - hp.length) 1 with h' | h'
      · omega
      · rw [List.getElem?_eq_none (by simpa using h')] at hj; cases hj
    subst this
    simp at hj
    subst hj
    exact hn

theorem Mem.alloc {w0 : World} {S : Nat → Nat → Prop} {m : Nat} {r0 r : Loc} {hp : Hp} {w : World} (h : Mem w0 S m r0 r hp w) (cs : List Cell) (hcs : ∀ c ∈ cs, c.lt hp.length) (t : TypeId) :
    Mem w0 S m r0 (locPut r hp.length (w.heap.size, 0)) (hp ++ [cs]) (w.alloc (.cells (denCells r cs).toArray t)) := by
  have ha := locPut_agree r hp.length (w.heap.size, 0)
  have hB : Below w.heap.size w (w.alloc (.cells (denCells r cs).toArray t)) := (Below.refl _ _).alloc (Nat.le_refl _) _
  have hF : Fr S w (w.alloc (.cells (denCells r cs).toArray t)) := Fr.of_below hB S
  have hself : locPut r hp.length (w.heap.size, 0) hp.length = (w.heap.size, 0) := by simp [locPut]
  have hden : denCells (locPut r hp.length (w.heap.size, 0)) cs = denCells r cs := denCells_agree ha hcs
  refine ⟨?_, ?_, ?_, ?_, ?_, ?_, ?_⟩
  · refine (h.heap.of_fr (Fr.of_below hB (fun _ _ => False)) (fun _ _ _ h => h)).append ha h.hlt ?_
    rw [hself, hden]
    refine ⟨fun i v hv => ?_, fun i hi => ?_⟩
    · simp [hv]
    · have : (denCells r cs)[i]? = some ((denCells r cs)[i]'(by rw [denCells_length]; exact hi)) := List.getElem?_eq_getElem _
      simp [this]
  · intro j j' l l' i i' hj hj' hne hi hi'
    have key : ∀ j l i, (hp ++ [cs])[j]? = some l → i < l.length → (j < hp.length ∧ hp[j]? = some l ∧ (locPut r hp.length (w.heap.size, 0) j) = r j ∧ (r j).1 < w.heap.size) ∨ (j = hp.length ∧ locPut r hp.length (w.heap.size, 0) j = (w.heap.size, 0)) := by
      intro j l i hj hi
      by_cases hjl : j < hp.length
      · rw [List.getElem?_append_left hjl] at hj
        exact .inl ⟨hjl, hj, ha j hjl, h.heap.lt hj hi⟩
      · have : j < (hp ++ [cs]).length := (List.getElem?_eq_some_iff.1 hj).1
        simp at this
        have : j = hp.length := by omega
        exact .inr ⟨this, by rw [this]; exact hself⟩
    rcases key j l i hj hi with ⟨a1, a2, a3, a4⟩ | ⟨a1, a2⟩ <;> rcases key j' l' i' hj' hi' with ⟨b1, b2, b3, b4⟩ | ⟨b1, b2⟩
    · rw [a3, b3]; exact h.disj j j' l l' i i' a2 b2 hne hi hi'
    · rw [a3, b2]; simp; omega
    · rw [a2, b3]; simp; omega
    · omega
  · intro l hl c hc
    rw [List.mem_append] at hl
    have hle : hp.length ≤ (hp ++ [cs]).length := by simp
    rcases hl with hl | hl
    · exact Cell.lt_mono hle (h.hlt l hl c hc)
    · simp at hl; subst hl
      exact Cell.lt_mono hle (hcs c hc)
  · exact h.frame.trans hF (fun _ _ _ h => h)
  · rintro b o ⟨j, l, i, hj, hi, rfl, rfl⟩
    by_cases hjl : j < hp.length
    · rw [List.getElem?_append_left hjl] at hj
      rw [ha j hjl]
      exact h.fresh _ _ ⟨j, l, i, hj, hi, rfl, rfl⟩
    · have : j < (hp ++ [cs]).length := (List.getElem?_eq_some_iff.1 hj).1
      simp at this
      have : j = hp.length := by omega
      subst this
      rw [hself]
      exact .inl h.frame.size
  · intro j hj
    rw [ha j (Nat.lt_of_lt_of_le hj h.mle)]
    exact h.par j hj
  · have := h.mle; simp; omega

/-! ### A store -/
def setN {α : Type} : List α → Nat → α → List α
  | [], _, _ => []
  | _ :: l, 0, x => x :: l
  | a :: l, n + 1, x => a :: setN l n x

theorem setN_eq {α : Type} : ∀ (l : List α) (n : Nat) (x : α), setN l n x = l.set n x
  | [], _, _ => rfl
  | _ :: _, 0, _ => rfl
  | a :: l, n + 1, x => by simp [setN, setN_eq l n x]

def setR (hp : Hp) (j off : Nat) (cs : List Cell) : Option Hp := match nth hp j with
  | some l => bif Nat.ble (off + cs.length) l.length then some (setN hp j (putR l off cs)) else none
  | none => none

theorem setR_spec {hp hp' : Hp} {j off : Nat} {cs : List Cell} (h : setR hp j off cs = some hp') : ∃ l, hp[j]? = some l ∧ off + cs.length ≤ l.length ∧ hp' = hp.set j (putR l off cs) := by
  unfold setR at h
  split at h
  · rename_i l hl
    rw [nth_eq] at hl
    cases hb : Nat.ble (off + cs.length) l.length with
    | false => rw [hb] at h; cases h
    | true =>
      rw [hb] at h
      simp only [cond_true, Option.some.injEq] at h
      exact ⟨l, hl, Nat.le_of_ble_eq_true hb, by rw [← h, setN_eq]⟩
  · cases h

/-- The world w' is w, but that the object's cells from off on hold cs. -/
theorem Mem.set {w0 : World} {S : Nat → Nat → Prop} {m : Nat} {r0 r : Loc} {hp hp' : Hp} {w w' : World} (h : Mem w0 S m r0 r hp w) {j off : Nat} {cs : List Cell}
    (hs : setR hp j off cs = some hp') (hcs : ∀ c ∈ cs, c.lt hp.length)
    (hr : w'.rangeAt (r j).1 ((r j).2 + off) (denCells r cs)) (hf : Fr (fun b o => b = (r j).1 ∧ (r j).2 + off ≤ o ∧ o < (r j).2 + off + cs.length) w w') : Mem w0 S m r0 r hp' w' := by
  obtain ⟨l, hl, hle, rfl⟩ := setR_spec hs
  have hjlt : j < hp.length := (List.getElem?_eq_some_iff.1 hl).1
  have hget : ∀ k x, (hp.set j (putR l off cs))[k]? = some x → ∃ y, hp[k]? = some y ∧ y.length = x.length ∧ (k = j → x = putR l off cs ∧ y = l) ∧ (k ≠ j → x = y) := by
    intro k x hk
    rw [List.getElem?_set] at hk
    by_cases hkj : j = k
    · subst hkj
      rw [if_pos rfl, if_pos hjlt] at hk
      injection hk with hk
      exact ⟨l, hl, by rw [← hk, putR_length hle], fun _ => ⟨hk.symm, rfl⟩, fun h => absurd rfl h⟩
    · rw [if_neg hkj] at hk
      exact ⟨x, hk, rfl, fun h => absurd h.symm hkj, fun _ => rfl⟩
  have hrng : ∀ b o, Rng r (hp.set j (putR l off cs)) b o → Rng r hp b o := by
    rintro b o ⟨k, x, i, hk, hi, rfl, rfl⟩
    obtain ⟨y, hy, hyl, _⟩ := hget k x hk
    exact ⟨k, y, i, hy, by omega, rfl, rfl⟩
  have hin : ∀ b o, (b = (r j).1 ∧ (r j).2 + off ≤ o ∧ o < (r j).2 + off + cs.length) → Rng r hp b o := by
    rintro b o ⟨rfl, h1, h2⟩
    exact ⟨j, l, o - (r j).2, hl, by omega, rfl, by omega⟩
  refine ⟨?_, ?_, ?_, ?_, ?_, h.par, ?_⟩
  · intro k x hk
    obtain ⟨y, hy, hyl, hj1, hj2⟩ := hget k x hk
    obtain ⟨g1, g2⟩ := h.heap k y hy
    refine ⟨fun i v hv => ?_, fun i hi => ?_⟩
    · have hix : i < x.length := by have := (List.getElem?_eq_some_iff.1 hv).1; rwa [denCells_length] at this
      rw [denCells_getElem?] at hv
      by_cases hkj : k = j
      · obtain ⟨rfl, rfl⟩ := hj1 hkj
        subst hkj
        rw [putR_getElem? hle] at hv
        by_cases hin' : off ≤ i ∧ i < off + cs.length
        · rw [if_pos hin'] at hv
          have := hr (i - off) v (by rw [denCells_getElem?]; exact hv)
          rwa [show (r k).2 + off + (i - off) = (r k).2 + i by omega] at this
        · rw [if_neg hin'] at hv
          rw [hf.cell _ _ (h.heap.lt (i := i) hy (by omega)) (by rintro ⟨_, a, b⟩; omega)]
          exact g1 i v (by rw [denCells_getElem?]; exact hv)
      · have := hj2 hkj; subst this
        rw [hf.cell _ _ (h.heap.lt (i := i) hy (by omega)) (by
          rintro ⟨e1, e2, e3⟩
          exact h.disj k j x l i ((r k).2 + i - (r j).2) hy hl hkj hix (by omega) ⟨e1, by omega⟩)]
        exact g1 i v (by rw [denCells_getElem?]; exact hv)
    · have hiy : i < y.length := by omega
      have ho := g2 i hiy
      refine ⟨?_, by rw [hf.frozen _ _ (h.heap.lt hy hiy)]; exact ho.2⟩
      by_cases hin' : (r k).1 = (r j).1 ∧ (r j).2 + off ≤ (r k).2 + i ∧ (r k).2 + i < (r j).2 + off + cs.length
      · have hlt : (r k).2 + i - ((r j).2 + off) < (denCells r cs).length := by rw [denCells_length]; omega
        have := hr ((r k).2 + i - ((r j).2 + off)) _ (List.getElem?_eq_getElem hlt)
        rw [show (r j).2 + off + ((r k).2 + i - ((r j).2 + off)) = (r k).2 + i by omega, ← hin'.1] at this
        rw [this]; rfl
      · rw [hf.cell _ _ (h.heap.lt hy hiy) hin']
        exact ho.1
  · intro k k' x x' i i' hk hk' hne hi hi'
    obtain ⟨y, hy, hyl, _⟩ := hget k x hk
    obtain ⟨y', hy', hyl', _⟩ := hget k' x' hk'
    exact h.disj k k' y y' i i' hy hy' hne (by omega) (by omega)
  · intro x hx c hc
    rw [List.length_set]
    obtain ⟨k, hk⟩ := List.mem_iff_getElem?.1 hx
    obtain ⟨y, hy, hyl, hj1, hj2⟩ := hget k x hk
    by_cases hkj : k = j
    · obtain ⟨rfl, rfl⟩ := hj1 hkj
      rcases putR_mem hc with hc | hc
      · exact h.hlt _ (List.mem_of_getElem? hl) c hc
      · exact hcs c hc
    · have := hj2 hkj; subst this
      exact h.hlt _ (List.mem_of_getElem? hy) c hc
  · exact h.frame.trans hf (fun b o hb hs => by
      rcases h.fresh b o (hin b o hs) with h' | h'
      · omega
      · exact h')
  · intro b o hbo
    exact h.fresh b o (hrng b o hbo)
  · rw [List.length_set]; exact h.mle

theorem Fr.setCells (w : World) (b o : Nat) (vs : List Value) (ht : w.there b o vs.length) : Fr (fun b' o' => b' = b ∧ o ≤ o' ∧ o' < o + vs.length) w (w.setCells b o vs) := by
  have main : ∀ (vs : List Value) (o : Nat) (w : World), (w.setCells b o vs).os = w.os ∧ (w.setCells b o vs).tape = w.tape ∧ (w.setCells b o vs).output = w.output ∧ (w.setCells b o vs).heap.size = w.heap.size ∧
      ∀ k, k ≠ b → (w.setCells b o vs).heap[k]? = w.heap[k]? := by
    intro vs
    induction vs with
    | nil => intro o w; exact ⟨rfl, rfl, rfl, rfl, fun _ _ => rfl⟩
    | cons v vs ih =>
      intro o w
      obtain ⟨h1, h2, h3, h4, h5⟩ := ih (o + 1) (w.setCell ⟨b, o, none⟩ v)
      refine ⟨h1, h2, h3, by rw [World.setCells, h4]; simp, fun k hk => ?_⟩
      rw [World.setCells, h5 k hk]
      exact Below.heap_setCell _ _ _ _ hk
  obtain ⟨h1, h2, h3, h4, h5⟩ := main vs o w
  refine ⟨h1, h2, h3, Nat.le_of_eq h4.symm, fun b' o' _ hn => ?_, fun b' o' _ => World.frozen?_setCells b vs o w _, fun b' hb' hn => ?_⟩
  · refine World.cell?_setCells_out b vs o w _ (fun e _ => ?_)
    simp only [] at e ⊢
    rcases Nat.lt_or_ge o' o with h | h
    · exact .inl h
    · exact .inr (by rcases Nat.lt_or_ge o' (o + vs.length) with h' | h'
                     · exact absurd ⟨e, h, h'⟩ hn
                     · exact h')
  · by_cases hv : vs.length = 0
    · have : vs = [] := List.length_eq_zero_iff.1 hv
      subst this; rfl
    · refine h5 b' (fun e => hn o ⟨e, Nat.le_refl _, by omega⟩)

end Go.Sy
