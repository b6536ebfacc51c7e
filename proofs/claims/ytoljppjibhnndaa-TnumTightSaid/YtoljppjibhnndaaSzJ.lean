/-
  A symbolic machine for one call, with rows of any length: rows' values; what is given away.
-/
import Derived.Test.YtoljppjibhnndaaSzI
namespace Go.Sz
open Go Go.RowKit Go.Sy
set_option linter.unusedVariables false
set_option linter.unusedSimpArgs false
set_option linter.constructorNameAsVariable false

/-! ### The values of a row -/
theorem RepC.move {G G' F : Frag} : ∀ {ts : Tys} {b o b' o' : Nat} {x : ts.den}, (∀ k, k < ts.len → ∀ v, G b (o + k) = some v → G' b' (o' + k) = some v) → RepC G F b o ts x → RepC G' F b' o' ts x
  | .nil, _, _, _, _, _, _, h => by simp only [RepC]
  | .cons t ts, b, o, b', o', x, hG, h => by
    simp only [RepC] at h ⊢
    obtain ⟨⟨v, h1, h2⟩, h3⟩ := h
    refine ⟨⟨v, by simpa using hG 0 (by simp [Tys.len]) v (by simpa using h1), h2⟩, RepC.move (fun k hk v hv => ?_) h3⟩
    have := hG (k + 1) (by simp only [Tys.len]; omega) v (by rw [← hv]; congr 1; omega)
    rw [← this]; congr 1; omega

def lF (vs : List Value) : Frag := fun _ p => vs[p]?

structure RowVals (F : Frag) (ts : Tys) (l : List ts.den) (vs : List Value) : Prop where
  len : vs.length = l.length * ts.len
  rep : ∀ i x, l[i]? = some x → RepC (lF vs) F 0 (i * ts.len) ts x
  one : ∀ v ∈ vs, v.oneCell' = true

theorem RowVals.mono {F F' : Frag} (hF : F.le F') {ts : Tys} {l : List ts.den} {vs : List Value} (h : RowVals F ts l vs) : RowVals F' ts l vs :=
  ⟨h.len, fun i x hx => (h.rep i x hx).mono (Frag.le_refl _) hF, h.one⟩

theorem RowVals.nil (F : Frag) (ts : Tys) : RowVals F ts [] [] := ⟨by simp, fun i x h => by simp at h, fun v h => by cases h⟩

theorem idx_lt {i n m k : Nat} (h : i < n) (hk : k < m) : i * m + k < n * m := by
  have : (i + 1) * m ≤ n * m := Nat.mul_le_mul_right _ h
  rw [Nat.add_mul] at this; omega

theorem RowVals.append {F : Frag} {ts : Tys} {l l' : List ts.den} {vs vs' : List Value} (h : RowVals F ts l vs) (h' : RowVals F ts l' vs') : RowVals F ts (l ++ l') (vs ++ vs') := by
  refine ⟨by simp [h.len, h'.len, Nat.add_mul], fun i x hx => ?_, fun v hv => ?_⟩
  · by_cases hi : i < l.length
    · rw [List.getElem?_append_left hi] at hx
      refine RepC.move (fun k hk v hv => ?_) (h.rep i x hx)
      have := idx_lt hi hk
      simp only [lF] at hv ⊢
      rw [List.getElem?_append_left (by rw [h.len]; exact this)]
      exact hv
    · rw [List.getElem?_append_right (by omega)] at hx
      refine RepC.move (fun k hk v hv => ?_) (h'.rep _ x hx)
      simp only [lF] at hv ⊢
      have e : i * ts.len + k = l.length * ts.len + ((i - l.length) * ts.len + k) := by
        rw [← Nat.add_assoc, ← Nat.add_mul]; congr 2; omega
      rw [e, List.getElem?_append_right (by rw [h.len]; omega), h.len, Nat.add_sub_cancel_left]
      exact hv
  · rcases List.mem_append.1 hv with hv | hv
    · exact h.one v hv
    · exact h'.one v hv

theorem RowVals.cut {F : Frag} {ts : Tys} {l : List ts.den} {vs : List Value} (h : RowVals F ts l vs) {lo hi : Nat} (h1 : lo ≤ hi) (h2 : hi ≤ l.length) : RowVals F ts (cut l lo hi) ((vs.drop (lo * ts.len)).take ((hi - lo) * ts.len)) := by
  have hlen : (Sz.cut l lo hi).length = hi - lo := by simp [Sz.cut]; omega
  have hm : lo * ts.len + (hi - lo) * ts.len ≤ l.length * ts.len := by rw [← Nat.add_mul]; exact Nat.mul_le_mul_right _ (by omega)
  refine ⟨by rw [hlen]; simp [h.len]; omega, fun i x hx => ?_, fun v hv => h.one v (List.mem_of_mem_drop (List.mem_of_mem_take hv))⟩
  have hi' : i < hi - lo := by have := (List.getElem?_eq_some_iff.1 hx).1; omega
  have hx' : l[lo + i]? = some x := by
    unfold Sz.cut at hx
    rw [List.getElem?_take, if_pos hi', List.getElem?_drop] at hx
    exact hx
  refine RepC.move (fun k hk v hv => ?_) (h.rep _ x hx')
  simp only [lF] at hv ⊢
  rw [List.getElem?_take, if_pos (idx_lt hi' hk), List.getElem?_drop]
  rw [← hv]; congr 1; rw [Nat.add_mul]; omega

theorem RowVals.lies {F G : Frag} {ts : Tys} {l : List ts.den} {vs : List Value} (h : RowVals F ts l vs) {b o : Nat} (hG : ∀ i v, vs[i]? = some v → G b (o + i) = some v) : ∀ i x, l[i]? = some x → RepC G F b (o + i * ts.len) ts x := fun i x hx =>
  RepC.move (fun k hk v hv => by rw [Nat.add_assoc]; exact hG _ _ hv) (h.rep i x hx)

/-- The values of elements that lie in a row. -/
theorem rowVals_of {G F : Frag} {b o : Nat} {ts : Tys} : ∀ {l : List ts.den}, (∀ i x, l[i]? = some x → RepC G F b (o + i * ts.len) ts x) → ∃ vs, RowVals F ts l vs ∧ ∀ i v, vs[i]? = some v → G b (o + i) = some v := by
  intro l
  induction l generalizing o with
  | nil => exact fun _ => ⟨[], RowVals.nil F ts, fun i v h => by simp at h⟩
  | cons x l ih =>
    intro h
    obtain ⟨vs, g1, g2⟩ := ih (o := o + ts.len) (fun i y hy => by
      have := h (i + 1) y (by simpa using hy)
      rw [Nat.add_mul, Nat.one_mul] at this
      rw [show o + ts.len + i * ts.len = o + (i * ts.len + ts.len) by omega]; exact this)
    have h0 := h 0 x rfl
    simp only [Nat.zero_mul, Nat.add_zero] at h0
    obtain ⟨us, k1, k2, k3, k4⟩ := cellsOf_rep (r := fun _ => ⟨0, 0, undef⟩) h0
    have hx : RowVals F ts [x] us := by
      refine ⟨by simp [k1], fun i y hy => ?_, k4⟩
      cases i with
      | zero =>
        simp at hy; subst hy
        refine RepC.move (fun k hk v hv => ?_) h0
        simp only [lF]
        have e := List.getElem?_eq_getElem (l := us) (i := k) (by omega)
        have := k2 k _ e
        rw [hv] at this
        injection this with this
        rw [Nat.zero_mul, Nat.zero_add, e, this]
      | succ i => simp at hy
    refine ⟨us ++ vs, hx.append g1, fun i v hv => ?_⟩
    by_cases hi : i < us.length
    · rw [List.getElem?_append_left hi] at hv; exact k2 i v hv
    · rw [List.getElem?_append_right (by omega)] at hv
      have := g2 _ v hv
      rw [← this]; congr 1; omega

/-- A row in memory. -/
theorem obIs_row {F : Frag} {r : Loc} {w : World} {ts : Tys} {l : List ts.den} {vs : List Value} (h : RowVals F ts l vs) {b o cap : Nat} (hc : l.length ≤ cap) (hm : cap ≤ maxLen) (ht : w.there b o (cap * ts.len)) (hr : w.rangeAt b o vs) :
    ObIs F r ⟨b, o, .slice (some ⟨b, o, none⟩) l.length cap⟩ w (.row ts l) :=
  .inr ⟨cap, rfl, hc, hm, ht, h.lies (fun i v hv => hr i v hv)⟩

/-! ### From cells to data -/
def iOf (k : IntKind) : Cell → Option Int
  | .v (.int k' n) => if k' = k then some n else none
  | _ => none
def bOf : Cell → Option Bool
  | .v (.bool x) => some x
  | _ => none
def sOf : Cell → Option ByteArray
  | .v (.string s) => some s
  | _ => none

def ofCell : (t : Ty) → Cell → Option t.den
  | .w k, c => wOf k c
  | .i k, c => iOf k c
  | .b, c => bOf c
  | .str, c => sOf c
  | .sl ts, c => dOf ts c

def ofCells : (ts : Tys) → List Cell → Option ts.den
  | .nil, [] => some ()
  | .cons t ts, c :: cs => match ofCell t c, ofCells ts cs with
    | some x, some xs => some (x, xs)
    | _, _ => none
  | _, _ => none

section
variable {F : Frag} {r : Loc}

theorem iOf_rep {k : IntKind} {c : Cell} {n : Int} (h : iOf k c = some n) {u : Value} (hu : c.rep F r u) : u = .int k n := by
  unfold iOf at h
  split at h
  · split at h
    · rename_i e; subst e; injection h with h; subst h; exact hu
    · cases h
  · cases h
theorem bOf_rep {c : Cell} {n : Bool} (h : bOf c = some n) {u : Value} (hu : c.rep F r u) : u = .bool n := by
  unfold bOf at h
  split at h
  · injection h with h; subst h; exact hu
  · cases h
theorem sOf_rep {c : Cell} {n : ByteArray} (h : sOf c = some n) {u : Value} (hu : c.rep F r u) : u = .string n := by
  unfold sOf at h
  split at h
  · injection h with h; subst h; exact hu
  · cases h

theorem ofCell_rep : ∀ {t : Ty} {c : Cell} {x : t.den} (h : ofCell t c = some x) {u : Value} (hu : c.rep F r u), RepT F t x u
  | .w k, c, x, h, u, hu => by simp only [RepT]; exact wOf_rep h hu
  | .i k, c, x, h, u, hu => by simp only [RepT]; exact iOf_rep h hu
  | .b, c, x, h, u, hu => by simp only [RepT]; exact bOf_rep h hu
  | .str, c, x, h, u, hu => by simp only [RepT]; exact sOf_rep h hu
  | .sl ts, c, x, h, u, hu => dOf_rep h hu

theorem ofCells_spec : ∀ {ts : Tys} {cs : List Cell} {x : ts.den} {vs : List Value}, ofCells ts cs = some x → cellsRep F r cs vs → vs.length = ts.len ∧ ∀ {G : Frag} {b o : Nat}, (∀ i v, vs[i]? = some v → G b (o + i) = some v) → RepC G F b o ts x
  | .nil, [], x, [], h, _ => ⟨rfl, fun _ => by simp only [RepC]⟩
  | .nil, [], _, _ :: _, _, h => h.elim
  | .nil, _ :: _, _, _, h, _ => by cases h
  | .cons t ts, [], _, _, h, _ => by cases h
  | .cons t ts, _ :: _, _, [], _, h => h.elim
  | .cons t ts, c :: cs, x, v :: vs, h, hr => by
    simp only [ofCells] at h
    split at h
    · rename_i y ys hy hys
      injection h with h; subst h
      obtain ⟨h1, h2⟩ := ofCells_spec hys hr.2
      refine ⟨by simp [h1, Tys.len], fun {G b o} hG => ?_⟩
      simp only [RepC]
      exact ⟨⟨v, by simpa using hG 0 v rfl, ofCell_rep hy hr.1⟩, h2 fun i u hu => by
        have := hG (i + 1) u (by simpa using hu)
        rw [← this]; congr 1; omega⟩
    · cases h

theorem rowVals_one {ts : Tys} {cs : List Cell} {x : ts.den} {vs : List Value} (h : ofCells ts cs = some x) (hr : cellsRep F r cs vs) (h1 : ∀ v ∈ vs, v.oneCell' = true) : RowVals F ts [x] vs := by
  obtain ⟨g1, g2⟩ := ofCells_spec h hr
  refine ⟨by simp [g1], fun i y hy => ?_, h1⟩
  cases i with
  | zero =>
    simp at hy; subst hy
    refine g2 fun i v hv => ?_
    simpa [lF] using hv
  | succ i => simp at hy
end

/-! ### What is given away: from here on nobody writes it -/
section
variable {w0 : World} {S : Nat → Nat → Prop} {R0 : Frag} {D : Nat → Prop} {H : Hf} {F : Frag} {r : Loc} {w : World}

theorem Mem.freeze (h : Mem w0 S R0 D H F r w) {j : Nat} {ts : Tys} {l : List ts.den} (hj : H j = some (.row ts l)) : ∃ F', F.le F' ∧ Mem w0 S R0 D (updH [(j, .frz ts l)] H) F' r w := by
  classical
  let inR : Nat → Nat → Prop := fun b o => b = (r j).b ∧ (r j).o ≤ o ∧ o < (r j).o + l.length * ts.len ∧ (Ob.row ts l).foot (r j) b o
  let F' : Frag := fun b o => match F b o with
    | some v => some v
    | none => if inR b o then w.cell? ⟨b, o, none⟩ else none
  have hle : F.le F' := fun b o v hv => by simp only [F', hv]
  have hF' : ∀ b o v, F' b o = some v → F b o = some v ∨ (inR b o ∧ w.cell? ⟨b, o, none⟩ = some v) := fun b o v hv => by
    simp only [F'] at hv
    split at hv
    · rename_i v' hv'; injection hv with hv; subst hv; exact .inl hv'
    · split at hv
      · rename_i hr; exact .inr ⟨hr, hv⟩
      · cases hv
  refine ⟨F', hle, h.step (T := fun k => k = j) (fun _ h => h) (fun _ _ => rfl) (fun k o hn hk => ?_) (fun k o hk ho => ?_) (fun k o b p hk ho hfo => ?_) (fun k k' o o' b p hk hk' _ _ hne _ _ => ?_) (Fr.refl _ _) hle (fun b o v hv => ?_)⟩
  · rw [updH_cons, if_neg (fun e => hn e.symm)] at hk; exact hk
  · subst hk
    rw [updH_cons, if_pos rfl] at ho
    injection ho with ho; subst ho
    refine ⟨h.dom _ _ hj, ?_, trivial⟩
    have hob := h.obs _ _ hj
    show RepT F' (.sl ts) l (r k).hv
    rcases hob with ⟨h1, h2⟩ | ⟨cap, h1, h2, h3, h4, h5⟩
    · rw [h1, h2]; exact repT_nil ts
    · simp only [RepT]
      refine ⟨_, cap, h1, h2, h3, fun _ => ⟨_, _, rfl, fun i x hx => ?_⟩⟩
      have hi : i < l.length := (List.getElem?_eq_some_iff.1 hx).1
      refine RepC.congr hle (fun q hq v hv => ?_) (h5 i x hx)
      have hlt := idx_lt (k := q) hi hq
      have hcap : l.length * ts.len ≤ cap * ts.len := Nat.mul_le_mul_right _ h2
      have hin : inR (r k).b ((r k).o + i * ts.len + q) := ⟨rfl, by omega, by omega, _, _, h1, rfl, by omega, by omega⟩
      simp only [F']
      cases hF : F (r k).b ((r k).o + i * ts.len + q) with
      | some v' =>
        have := h.fin _ _ _ hF
        simp only [memF] at hv
        rw [hv] at this; simpa using this.symm
      | none =>
        simp only [memF] at hv
        simp only [if_pos hin]; exact hv
  · subst hk
    rw [updH_cons, if_pos rfl] at ho
    injection ho with ho; subst ho
    exact hfo.elim
  · exact hne (hk.trans hk'.symm)
  · rcases hF' b o v hv with h1 | ⟨h1, h2⟩
    · exact .inl h1
    · refine .inr ⟨h2, .inl ⟨j, _, rfl, hj, h1.2.2.2⟩, fun k ob hk hob hfo => ?_⟩
      subst hk
      rw [updH_cons, if_pos rfl] at hob
      injection hob with hob; subst hob
      exact hfo
end

/-- The rows among these cells are given away. -/
def deepC (H : Hf) : Cell → Option (Cell × List (Nat × Ob))
  | .h j => match H j with
    | some (.row ts l) => some (.d ts l, [(j, .frz ts l)])
    | some (.frz ts l) => some (.d ts l, [])
    | _ => none
  | c => some (c, [])

def deepL (H : Hf) : List Cell → Option (List Cell × List (Nat × Ob))
  | [] => some ([], [])
  | c :: cs => match deepC H c with
    | some (d, ups) => match deepL (updH ups H) cs with
      | some (ds, ups') => some (d :: ds, ups' ++ ups)
      | none => none
    | none => none

theorem updH_append : ∀ (a b : List (Nat × Ob)) (H : Hf), updH (a ++ b) H = updH a (updH b H)
  | [], b, H => rfl
  | (k, ob) :: a, b, H => by
    funext j
    rw [List.cons_append, updH_cons, updH_cons, updH_append a b H]

section
variable {w0 : World} {S : Nat → Nat → Prop} {R0 : Frag} {D : Nat → Prop} {H : Hf} {F : Frag} {r : Loc} {w : World}

theorem updH_sub {Hr H : Hf} (hs : ∀ j ob, Hr j = some ob → H j = some ob) : ∀ (l : List (Nat × Ob)), ∀ j ob, updH l Hr j = some ob → updH l H j = some ob
  | [] => hs
  | (k, o) :: l => fun j ob h => by
    rw [updH_cons] at h ⊢
    split
    · rename_i e; rw [if_pos e] at h; exact h
    · rename_i e; rw [if_neg e] at h; exact updH_sub hs l j ob h

theorem deepC_spec {Hr : Hf} (hs : ∀ j ob, Hr j = some ob → H j = some ob) (h : Mem w0 S R0 D H F r w) {c d : Cell} {ups : List (Nat × Ob)} (hd : deepC Hr c = some (d, ups)) (hc : c.inn D) :
    ∃ F', F.le F' ∧ Mem w0 S R0 D (updH ups H) F' r w ∧ d.inn D ∧ ∀ u, c.rep F r u → d.rep F' r u := by
  unfold deepC at hd
  split at hd
  · rename_i j
    split at hd
    · rename_i ts l hj
      injection hd with hd; injection hd with h1 h2; subst h1 h2
      obtain ⟨F', g1, g2⟩ := h.freeze (hs _ _ hj)
      refine ⟨F', g1, g2, trivial, fun u hu => ?_⟩
      have := g2.obs j (.frz ts l) (by rw [updH_cons, if_pos rfl])
      show RepT F' (.sl ts) l u
      rw [hu.1]; exact this
    · rename_i ts l hj
      injection hd with hd; injection hd with h1 h2; subst h1 h2
      refine ⟨F, Frag.le_refl F, h, trivial, fun u hu => ?_⟩
      show RepT F (.sl ts) l u
      rw [hu.1]; exact h.obs j _ (hs _ _ hj)
    · cases hd
  · injection hd with hd; injection hd with h1 h2; subst h1 h2
    exact ⟨F, Frag.le_refl F, h, hc, fun u hu => hu⟩

theorem deepL_spec : ∀ {cs ds : List Cell} {ups : List (Nat × Ob)} {Hr H : Hf} {F : Frag} (hs : ∀ j ob, Hr j = some ob → H j = some ob) (h : Mem w0 S R0 D H F r w), deepL Hr cs = some (ds, ups) → (∀ c ∈ cs, c.inn D) →
    ∃ F', F.le F' ∧ Mem w0 S R0 D (updH ups H) F' r w ∧ (∀ d ∈ ds, d.inn D) ∧ ds.length = cs.length ∧ ∀ us, cellsRep F r cs us → cellsRep F' r ds us
  | [], ds, ups, Hr, H, F, hs, h, hd, hc => by
    simp only [deepL, Option.some.injEq, Prod.mk.injEq] at hd
    obtain ⟨rfl, rfl⟩ := hd
    exact ⟨F, Frag.le_refl F, h, fun d hd => (by cases hd), rfl, fun us hu => hu⟩
  | c :: cs, ds, ups, Hr, H, F, hs, h, hd, hc => by
    simp only [deepL] at hd
    split at hd
    · rename_i d ups1 hd1
      split at hd
      · rename_i ds2 ups2 hd2
        simp only [Option.some.injEq, Prod.mk.injEq] at hd
        obtain ⟨rfl, rfl⟩ := hd
        obtain ⟨F1, g1, g2, g3, g4⟩ := deepC_spec hs h hd1 (hc c List.mem_cons_self)
        obtain ⟨F2, k1, k2, k3, k5, k4⟩ := deepL_spec (updH_sub hs ups1) g2 hd2 (fun x hx => hc x (List.mem_cons_of_mem _ hx))
        refine ⟨F2, Frag.le_trans g1 k1, by rw [updH_append]; exact k2, fun x hx => ?_, by simp [k5], fun us hu => ?_⟩
        · rcases List.mem_cons.1 hx with rfl | hx
          · exact g3
          · exact k3 x hx
        · cases us with
          | nil => exact hu.elim
          | cons u us =>
            refine ⟨Cell.rep_to k1 (fun _ _ => rfl) g3 (g4 u hu.1), k4 us ?_⟩
            exact cellsRep_to g1 (fun _ _ => rfl) (fun x hx => hc x (List.mem_cons_of_mem _ hx)) hu.2
      · cases hd
    · cases hd
end
end Go.Sz
