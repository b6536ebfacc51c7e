/-
  A symbolic machine for one call, with rows of any length: the memory that a call owns, and how it may turn.
-/
import Derived.Test.YtoljppjibhnndaaSzA
namespace Go.Sz
open Go Go.RowKit
set_option linter.unusedVariables false
set_option linter.unusedSimpArgs false
set_option linter.constructorNameAsVariable false

/-! ### What has turned -/
structure Fr (S : Nat → Nat → Prop) (w w' : World) : Prop where
  os : w'.os = w.os
  tape : w'.tape = w.tape
  output : w'.output = w.output
  size : w.heap.size ≤ w'.heap.size
  cell : ∀ b o, b < w.heap.size → ¬ S b o → w'.cell? ⟨b, o, none⟩ = w.cell? ⟨b, o, none⟩
  frozen : ∀ b o, b < w.heap.size → w'.frozen? ⟨b, o, none⟩ = w.frozen? ⟨b, o, none⟩
  block : ∀ b, b < w.heap.size → (∀ o, ¬ S b o) → w'.heap[b]? = w.heap[b]?

theorem Fr.refl (S : Nat → Nat → Prop) (w : World) : Fr S w w := ⟨rfl, rfl, rfl, Nat.le_refl _, fun _ _ _ _ => rfl, fun _ _ _ => rfl, fun _ _ _ => rfl⟩

theorem Fr.trans {S S' : Nat → Nat → Prop} {w w1 w2 : World} (h : Fr S w w1) (k : Fr S' w1 w2) (hS : ∀ b o, b < w.heap.size → S' b o → S b o) : Fr S w w2 where
  os := k.os.trans h.os
  tape := k.tape.trans h.tape
  output := k.output.trans h.output
  size := Nat.le_trans h.size k.size
  cell b o hb hn := (k.cell b o (Nat.lt_of_lt_of_le hb h.size) (fun hs => hn (hS b o hb hs))).trans (h.cell b o hb hn)
  frozen b o hb := (k.frozen b o (Nat.lt_of_lt_of_le hb h.size)).trans (h.frozen b o hb)
  block b hb hn := (k.block b (Nat.lt_of_lt_of_le hb h.size) (fun o hs => hn o (hS b o hb hs))).trans (h.block b hb hn)

theorem Fr.mono {S S' : Nat → Nat → Prop} {w w1 : World} (h : Fr S w w1) (hS : ∀ b o, b < w.heap.size → S b o → S' b o) : Fr S' w w1 :=
  ⟨h.os, h.tape, h.output, h.size, fun b o hb hn => h.cell b o hb fun hs => hn (hS b o hb hs), h.frozen, fun b hb hn => h.block b hb fun o hs => hn o (hS b o hb hs)⟩

theorem Fr.of_below {w w' : World} (h : Below w.heap.size w w') (S : Nat → Nat → Prop) : Fr S w w' :=
  ⟨h.os, h.tape, h.output, h.size, fun b o hb _ => h.cell (p := ⟨b, o, none⟩) hb, fun b o hb => h.frozen (p := ⟨b, o, none⟩) hb, fun b hb _ => h.block b hb⟩

theorem Fr.below {S : Nat → Nat → Prop} {w w' : World} (h : Fr S w w') (hS : ∀ b o, ¬ S b o) : Below w.heap.size w w' :=
  ⟨h.os, h.tape, h.output, h.size, fun k hk => h.block k hk (hS k)⟩

theorem Fr.drew {S : Nat → Nat → Prop} {w w' : World} (h : Fr S w w') : Fr S w w'.drew :=
  ⟨h.os, h.tape, h.output, h.size, h.cell, h.frozen, h.block⟩

/-! ### Objects -/
/-- What an entry of a map holds: one cell, or several. -/
inductive Vt where
  | one (t : Ty)
  | many (ts : Tys)
@[reducible] def Vt.den : Vt → Type
  | .one t => t.den
  | .many ts => ts.den
def RepL (F : Frag) : (ts : Tys) → ts.den → List Value → Prop
  | .nil, _, [] => True
  | .cons t ts, x, v :: vs => RepT F t x.1 v ∧ RepL F ts x.2 vs
  | _, _, _ => False
def RepV (F : Frag) : (t : Vt) → t.den → Value → Prop
  | .one t, x, v => RepT F t x v
  | .many ts, x, v => ∃ vs, RepL F ts x vs ∧ v = .agg vs.toArray

theorem RepL.mono {F F' : Frag} (hF : F.le F') : ∀ {ts : Tys} {x : ts.den} {vs : List Value}, RepL F ts x vs → RepL F' ts x vs
  | .nil, _, [], _ => trivial
  | .nil, _, _ :: _, h => h.elim
  | .cons t ts, x, v :: vs, h => ⟨h.1.mono hF, RepL.mono hF h.2⟩
  | .cons t ts, x, [], h => h.elim
theorem RepV.mono {F F' : Frag} (hF : F.le F') {t : Vt} {x : t.den} {v : Value} (h : RepV F t x v) : RepV F' t x v := by
  cases t with
  | one t => exact RepT.mono hF h
  | many ts => obtain ⟨vs, h1, h2⟩ := h; exact ⟨vs, h1.mono hF, h2⟩

inductive Ob where
  /-- cells -/
  | lit (l : List Cell)
  /-- a row of elements that nobody else has, of whatever capacity; or nil -/
  | row (ts : Tys) (l : List ts.den)
  /-- a slice that nobody writes any more -/
  | frz (ts : Tys) (l : List ts.den)
  /-- a map -/
  | mp (kt : Ty) (vt : Vt) (m : List (kt.den × vt.den))
  | dead

def Ob.foot (d : Ld) : Ob → Nat → Nat → Prop
  | .lit l, b, o => b = d.b ∧ d.o ≤ o ∧ o < d.o + l.length
  | .row ts _, b, o => ∃ n cap, d.hv = .slice (some ⟨d.b, d.o, none⟩) n cap ∧ b = d.b ∧ d.o ≤ o ∧ o < d.o + cap * ts.len
  | .mp .., b, _ => b = d.b
  | _, _, _ => False

def Ob.inn (D : Nat → Prop) : Ob → Prop
  | .lit l => ∀ c ∈ l, c.inn D
  | _ => True

def entriesRep (F : Frag) (kt : Ty) (vt : Vt) : List (kt.den × vt.den) → List MapEntry → Prop
  | [], [] => True
  | x :: m, e :: es => RepT F kt x.1 e.key ∧ RepV F vt x.2 e.val ∧ entriesRep F kt vt m es
  | _, _ => False

theorem entriesRep.mono {F F' : Frag} (hF : F.le F') {kt : Ty} {vt : Vt} : ∀ {m : List (kt.den × vt.den)} {es : List MapEntry}, entriesRep F kt vt m es → entriesRep F' kt vt m es
  | [], [], _ => trivial
  | [], _ :: _, h => h.elim
  | _ :: _, [], h => h.elim
  | _ :: _, _ :: _, h => ⟨h.1.mono hF, h.2.1.mono hF, h.2.2.mono hF⟩

def ObIs (F : Frag) (r : Loc) (d : Ld) (w : World) : Ob → Prop
  | .lit l => ∃ vs, cellsRep F r l vs ∧ w.rangeAt d.b d.o vs ∧ w.there d.b d.o l.length ∧ (∀ v ∈ vs, v.oneCell' = true)
  | .row ts l => (d.hv = .slice none 0 0 ∧ l = []) ∨
      ∃ cap, d.hv = .slice (some ⟨d.b, d.o, none⟩) l.length cap ∧ l.length ≤ cap ∧ cap ≤ maxLen ∧ w.there d.b d.o (cap * ts.len) ∧ ∀ i x, l[i]? = some x → RepC (memF w) F d.b (d.o + i * ts.len) ts x
  | .frz ts l => RepT F (.sl ts) l d.hv
  | .mp kt vt m => d.hv = .map (some d.b) ∧ ∃ es clock, w.heap[d.b]? = some (.map es clock) ∧ entriesRep F kt vt m es.toList ∧ es.toList.Pairwise (fun x y => x.born < y.born) ∧ ∀ e ∈ es.toList, e.born < clock
  | .dead => True

abbrev Hf := Nat → Option Ob

structure Mem (w0 : World) (S : Nat → Nat → Prop) (R0 : Frag) (D : Nat → Prop) (H : Hf) (F : Frag) (r : Loc) (w : World) : Prop where
  obs : ∀ j ob, H j = some ob → ObIs F r (r j) w ob
  dom : ∀ j ob, H j = some ob → D j
  scp : ∀ j ob, H j = some ob → ob.inn D
  disj : ∀ j j' ob ob' b o, H j = some ob → H j' = some ob' → j ≠ j' → ob.foot (r j) b o → ob'.foot (r j') b o → False
  fin : ∀ b o v, F b o = some v → w.cell? ⟨b, o, none⟩ = some v
  fown : ∀ b o v j ob, F b o = some v → H j = some ob → ob.foot (r j) b o → False
  frame : Fr S w0 w
  fresh : ∀ j ob b o, H j = some ob → ob.foot (r j) b o → w0.heap.size ≤ b ∨ S b o
  base : R0.le F
  prov : ∀ b o v, F b o = some v → R0 b o = some v ∨ S b o ∨ w0.heap.size ≤ b

theorem Frag.le.trans' {F G K : Frag} (h : F.le G) (k : G.le K) : F.le K := Frag.le_trans h k

theorem World.cell_lt (w : World) {b o : Nat} {v : Value} (h : w.cell? ⟨b, o, none⟩ = some v) : b < w.heap.size := World.block_lt_of_cell? w ⟨b, o, none⟩ h

theorem ObIs.lt {F : Frag} {r : Loc} {d : Ld} {w : World} {ob : Ob} (h : ObIs F r d w ob) {b o : Nat} (hf : ob.foot d b o) : b < w.heap.size := by
  cases ob with
  | lit l =>
    obtain ⟨vs, _, _, h3, _⟩ := h
    obtain ⟨rfl, h1, h2⟩ := hf
    have h4 := (h3 (o - d.o) (by omega)).1
    cases hc : w.cell? ⟨d.b, d.o + (o - d.o), none⟩ with
    | none => rw [hc] at h4; cases h4
    | some v => exact World.cell_lt w hc
  | row ts l =>
    obtain ⟨n, cap, e, rfl, h1, h2⟩ := hf
    rcases h with ⟨h, _⟩ | ⟨cap', h, _, _, h3, _⟩
    · rw [h] at e; cases e
    · rw [h] at e; injection e with _ _ e; subst e
      have h4 := (h3 (o - d.o) (by omega)).1
      cases hc : w.cell? ⟨d.b, d.o + (o - d.o), none⟩ with
      | none => rw [hc] at h4; cases h4
      | some v => exact World.cell_lt w hc
  | frz => exact hf.elim
  | dead => exact hf.elim
  | mp kt vt m =>
    obtain ⟨_, es, clock, h, _⟩ := h
    simp only [Ob.foot] at hf
    subst hf
    exact (Array.getElem?_eq_some_iff.1 h).1

/-- An object that nobody touches stays what it is. -/
theorem ObIs.stay {F F' : Frag} {r r' : Loc} {D : Nat → Prop} {w w' : World} {S : Nat → Nat → Prop} {ob : Ob} {d : Ld} (h : ObIs F r d w ob) (hF : F.le F') (ha : Loc.agree D r r') (hs : ob.inn D)
    (hf : Fr S w w') (hS : ∀ b o, ob.foot d b o → ¬ S b o) : ObIs F' r' d w' ob := by
  have hlt : ∀ b o, ob.foot d b o → b < w.heap.size := fun b o hh => h.lt hh
  cases ob with
  | lit l =>
    obtain ⟨vs, h1, h2, h3, h4⟩ := h
    have hl := cellsRep_length h1
    refine ⟨vs, cellsRep_to hF ha hs h1, fun i v hv => ?_, fun i hi => ?_, h4⟩
    · have hi : i < l.length := by have := (List.getElem?_eq_some_iff.1 hv).1; omega
      have hfo : (Ob.lit l).foot d d.b (d.o + i) := ⟨rfl, by omega, by omega⟩
      rw [hf.cell _ _ (hlt _ _ hfo) (hS _ _ hfo)]
      exact h2 i v hv
    · have hfo : (Ob.lit l).foot d d.b (d.o + i) := ⟨rfl, by omega, by omega⟩
      rw [hf.cell _ _ (hlt _ _ hfo) (hS _ _ hfo), hf.frozen _ _ (hlt _ _ hfo)]
      exact h3 i hi
  | row ts l =>
    rcases h with h | ⟨cap, h1, h2, h3, h4, h5⟩
    · exact .inl h
    · refine .inr ⟨cap, h1, h2, h3, fun i hi => ?_, fun i x hx => ?_⟩
      · have hfo : (Ob.row ts l).foot d d.b (d.o + i) := ⟨_, _, h1, rfl, by omega, by omega⟩
        rw [hf.cell _ _ (hlt _ _ hfo) (hS _ _ hfo), hf.frozen _ _ (hlt _ _ hfo)]
        exact h4 i hi
      · refine RepC.congr hF (fun k hk v hv => ?_) (h5 i x hx)
        have hi : i < l.length := (List.getElem?_eq_some_iff.1 hx).1
        have hb : d.o + i * ts.len + k < d.o + cap * ts.len := by
          have : (i + 1) * ts.len ≤ cap * ts.len := Nat.mul_le_mul_right _ (by omega)
          rw [Nat.add_mul] at this; omega
        have hfo : (Ob.row ts l).foot d d.b (d.o + i * ts.len + k) := ⟨_, _, h1, rfl, by omega, hb⟩
        unfold memF at hv ⊢
        rw [hf.cell _ _ (hlt _ _ hfo) (hS _ _ hfo)]
        exact hv
  | frz ts l => exact RepT.mono hF h
  | dead => trivial
  | mp kt vt m =>
    obtain ⟨h0, es, clock, h1, h2, h3, h4⟩ := h
    refine ⟨h0, es, clock, ?_, h2.mono hF, h3, h4⟩
    rw [hf.block d.b (hlt d.b 0 rfl) (fun o => hS _ _ rfl)]
    exact h1

/-- The ids that turn, and what they hold behind. -/
def TFoot (T : Nat → Prop) (H : Hf) (r : Loc) (b o : Nat) : Prop := ∃ j ob, T j ∧ H j = some ob ∧ ob.foot (r j) b o

section
variable {w0 : World} {S : Nat → Nat → Prop} {R0 : Frag} {D : Nat → Prop} {H : Hf} {F : Frag} {r : Loc} {w : World}

theorem Mem.drew (h : Mem w0 S R0 D H F r w) : Mem w0 S R0 D H F r w.drew :=
  ⟨fun j ob hj => by have := h.obs j ob hj; cases ob <;> exact this, h.dom, h.scp, h.disj, h.fin, h.fown, h.frame.drew, h.fresh, h.base, h.prov⟩

/-- One step, of whatever kind. -/
theorem Mem.step (h : Mem w0 S R0 D H F r w) {T : Nat → Prop} {D' : Nat → Prop} {H' : Hf} {F' : Frag} {r' : Loc} {w' : World}
    (hD : ∀ j, D j → D' j) (hr : Loc.agree D r r')
    (hH : ∀ j ob, ¬ T j → H' j = some ob → H j = some ob)
    (hT : ∀ j ob, T j → H' j = some ob → D' j ∧ ObIs F' r' (r' j) w' ob ∧ ob.inn D')
    (hfoot : ∀ j ob b o, T j → H' j = some ob → ob.foot (r' j) b o → TFoot T H r b o ∨ w.heap.size ≤ b)
    (hdis : ∀ j j' ob ob' b o, T j → T j' → H' j = some ob → H' j' = some ob' → j ≠ j' → ob.foot (r' j) b o → ob'.foot (r' j') b o → False)
    (hf : Fr (TFoot T H r) w w') (hF : F.le F')
    (hnew : ∀ b o v, F' b o = some v → F b o = some v ∨ (w'.cell? ⟨b, o, none⟩ = some v ∧ (TFoot T H r b o ∨ w.heap.size ≤ b) ∧ ∀ j ob, T j → H' j = some ob → ob.foot (r' j) b o → False)) :
    Mem w0 S R0 D' H' F' r' w' := by
  have hold : ∀ b o v j ob, F b o = some v → T j → H' j = some ob → ob.foot (r' j) b o → False := by
    intro b o v j ob hv hj hob hfo
    rcases hfoot j ob b o hj hob hfo with ⟨j0, ob0, h1, h2, h3⟩ | h1
    · exact h.fown b o v j0 ob0 hv h2 h3
    · exact Nat.lt_irrefl _ (Nat.lt_of_lt_of_le (World.cell_lt w (h.fin b o v hv)) h1)
  have hsame : ∀ j ob, ¬ T j → H' j = some ob → H j = some ob ∧ r' j = r j := fun j ob hn hj => ⟨hH j ob hn hj, hr j (h.dom j ob (hH j ob hn hj))⟩
  have hsafe : ∀ j ob b o, ¬ T j → H j = some ob → ob.foot (r j) b o → ¬ TFoot T H r b o := by
    rintro j ob b o hn hj hfo ⟨j0, ob0, h1, h2, h3⟩
    exact h.disj j j0 ob ob0 b o hj h2 (fun e => hn (e ▸ h1)) hfo h3
  have hlt : ∀ j ob b o, H j = some ob → ob.foot (r j) b o → b < w.heap.size := fun j ob b o hj hfo => (h.obs j ob hj).lt hfo
  refine ⟨?_, ?_, ?_, ?_, ?_, ?_, ?_, ?_, h.base.trans' hF, ?_⟩
  · intro j ob hj
    by_cases ht : T j
    · exact (hT j ob ht hj).2.1
    · obtain ⟨h1, h2⟩ := hsame j ob ht hj
      rw [h2]
      exact (h.obs j ob h1).stay hF hr (h.scp j ob h1) hf (fun b o hfo => hsafe j ob b o ht h1 hfo)
  · intro j ob hj
    by_cases ht : T j
    · exact (hT j ob ht hj).1
    · exact hD j (h.dom j ob (hsame j ob ht hj).1)
  · intro j ob hj
    by_cases ht : T j
    · exact (hT j ob ht hj).2.2
    · have := h.scp j ob (hsame j ob ht hj).1
      cases ob <;> first | trivial | exact fun c hc => Cell.inn_mono hD (this c hc)
  · intro j j' ob ob' b o hj hj' hne hb hb'
    by_cases ht : T j <;> by_cases ht' : T j'
    · exact hdis j j' ob ob' b o ht ht' hj hj' hne hb hb'
    · obtain ⟨g1, g2⟩ := hsame j' ob' ht' hj'
      rw [g2] at hb'
      rcases hfoot j ob b o ht hj hb with h1 | h1
      · exact hsafe j' ob' b o ht' g1 hb' h1
      · exact Nat.lt_irrefl _ (Nat.lt_of_lt_of_le (hlt j' ob' b o g1 hb') h1)
    · obtain ⟨g1, g2⟩ := hsame j ob ht hj
      rw [g2] at hb
      rcases hfoot j' ob' b o ht' hj' hb' with h1 | h1
      · exact hsafe j ob b o ht g1 hb h1
      · exact Nat.lt_irrefl _ (Nat.lt_of_lt_of_le (hlt j ob b o g1 hb) h1)
    · obtain ⟨g1, g2⟩ := hsame j ob ht hj
      obtain ⟨g1', g2'⟩ := hsame j' ob' ht' hj'
      rw [g2] at hb
      rw [g2'] at hb'
      exact h.disj j j' ob ob' b o g1 g1' hne hb hb'
  · intro b o v hv
    rcases hnew b o v hv with h1 | ⟨h1, _⟩
    · have h2 := h.fin b o v h1
      rw [hf.cell b o (World.cell_lt w h2) (by rintro ⟨j, ob, _, g2, g3⟩; exact h.fown b o v j ob h1 g2 g3)]
      exact h2
    · exact h1
  · intro b o v j ob hv hj hfo
    by_cases ht : T j
    · rcases hnew b o v hv with h1 | ⟨_, _, h1⟩
      · exact hold b o v j ob h1 ht hj hfo
      · exact h1 j ob ht hj hfo
    · obtain ⟨g1, g2⟩ := hsame j ob ht hj
      rw [g2] at hfo
      rcases hnew b o v hv with h1 | ⟨_, h1 | h1, _⟩
      · exact h.fown b o v j ob h1 g1 hfo
      · exact hsafe j ob b o ht g1 hfo h1
      · exact Nat.lt_irrefl _ (Nat.lt_of_lt_of_le (hlt j ob b o g1 hfo) h1)
  · refine h.frame.trans hf ?_
    rintro b o hb ⟨j, ob, _, g2, g3⟩
    rcases h.fresh j ob b o g2 g3 with h1 | h1
    · omega
    · exact h1
  · intro j ob b o hj hfo
    by_cases ht : T j
    · rcases hfoot j ob b o ht hj hfo with ⟨j0, ob0, _, h2, h3⟩ | h1
      · exact h.fresh j0 ob0 b o h2 h3
      · exact .inl (Nat.le_trans h.frame.size h1)
    · obtain ⟨g1, g2⟩ := hsame j ob ht hj
      rw [g2] at hfo
      exact h.fresh j ob b o g1 hfo
  · intro b o v hv
    rcases hnew b o v hv with h1 | ⟨_, h1 | h1, _⟩
    · exact h.prov b o v h1
    · obtain ⟨j, ob, _, g2, g3⟩ := h1
      exact .inr ((h.fresh j ob b o g2 g3).symm)
    · exact .inr (.inr (Nat.le_trans h.frame.size h1))
end
end Go.Sz
