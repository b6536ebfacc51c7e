/-
  A symbolic machine for one call, with rows of any length: how objects are made, turned, given away.
  A symbolic machine for one call, with rows of any length: rows' values; what is given away.
  A symbolic machine for one call, with rows of any length: append.
-/
import Derived.Test.YtfbldjaepenfpaaGreatDoorSzH
import Derived.ArgAppend
import Derived.Laws.MakeOwn
import Derived.Laws.IdiomStrings
noncomputable section
namespace Go.Sz
open Go Go.RowKit Go.Sy
set_option linter.unusedVariables false
set_option linter.unusedSimpArgs false
set_option linter.constructorNameAsVariable false
theorem Fr.setCells (w : World) (b o : Nat) (vs : List Value) (ht : w.there b o vs.length) : Fr (fun b' o' => b' = b ∧ o ≤ o' ∧ o' < o + vs.length) w (w.setCells b o vs) := by
  have main : ∀ (vs : List Value) (o : Nat) (w : World), (w.setCells b o vs).os = w.os ∧ (w.setCells b o vs).tape = w.tape ∧ (w.setCells b o vs).output = w.output ∧ (w.setCells b o vs).heap.size = w.heap.size ∧
      ∀ k, k ≠ b → (w.setCells b o vs).heap[k]? = w.heap[k]? := by
    intro vs
    induction vs with
    | nil => intro o w; exact ⟨rfl, rfl, rfl, rfl, fun _ _ => rfl⟩
    | cons v vs ih =>
      intro o w
      obtain ⟨h1, h2, h3, h4, h5⟩ := ih (o + 1) (w.setCell ⟨b, o, none⟩ v)
      refine ⟨h1, h2, h3, by rw [World.setCells, h4]; simp, fun k hk => ?_⟩
      rw [World.setCells, h5 k hk]
      exact Below.heap_setCell _ _ _ _ hk
  obtain ⟨h1, h2, h3, h4, h5⟩ := main vs o w
  refine ⟨h1, h2, h3, Nat.le_of_eq h4.symm, fun b' o' _ hn => ?_, fun b' o' _ => World.frozen?_setCells b vs o w _, fun b' hb' hn => ?_⟩
  · refine World.cell?_setCells_out b vs o w _ (fun e _ => ?_)
    simp only [] at e ⊢
    rcases Nat.lt_or_ge o' o with h | h
    · exact .inl h
    · exact .inr (by rcases Nat.lt_or_ge o' (o + vs.length) with h' | h'
                     · exact absurd ⟨e, h, h'⟩ hn
                     · exact h')
  · by_cases hv : vs.length = 0
    · have : vs = [] := List.length_eq_zero_iff.1 hv
      subst this; rfl
    · refine h5 b' (fun e => hn o ⟨e, Nat.le_refl _, by omega⟩)
def updH : List (Nat × Ob) → Hf → Hf
  | [], H => H
  | (k, ob) :: l, H => fun j => bif Nat.beq k j then some ob else updH l H j
theorem updH_cons (k : Nat) (ob : Ob) (l : List (Nat × Ob)) (H : Hf) (j : Nat) : updH ((k, ob) :: l) H j = if k = j then some ob else updH l H j := by
  simp only [updH]
  by_cases h : k = j
  · subst h; simp
  · have : Nat.beq k j = false := by
      cases hb : Nat.beq k j with
      | false => rfl
      | true => exact absurd (Nat.eq_of_beq_eq_true hb) h
    rw [this, if_neg h]; rfl
def deads : List Nat → List (Nat × Ob)
  | [] => []
  | j :: js => (j, .dead) :: deads js
theorem updH_deads {H : Hf} : ∀ {js : List Nat} {j : Nat} {ob : Ob}, updH (deads js) H j = some ob → (j ∈ js ∧ ob = .dead) ∨ (j ∉ js ∧ H j = some ob)
  | [], j, ob, h => .inr ⟨by simp, h⟩
  | k :: js, j, ob, h => by
    simp only [deads] at h
    rw [updH_cons] at h
    split at h
    · rename_i e; subst e; injection h with h; exact .inl ⟨by simp, h.symm⟩
    · rename_i e
      rcases updH_deads h with ⟨h1, h2⟩ | ⟨h1, h2⟩
      · exact .inl ⟨List.mem_cons_of_mem _ h1, h2⟩
      · exact .inr ⟨by simp [h1, Ne.symm e], h2⟩
def locPut (r : Loc) (n : Nat) (x : Ld) : Loc := fun j => if j = n then x else r j
theorem locPut_agree {D : Nat → Prop} (r : Loc) {n : Nat} (hn : ¬ D n) (x : Ld) : Loc.agree D r (locPut r n x) := fun j hj => by
  unfold locPut; rw [if_neg (fun e => by subst e; exact hn hj)]
theorem locPut_self (r : Loc) (n : Nat) (x : Ld) : locPut r n x n = x := by simp [locPut]
section
variable {w0 : World} {S : Nat → Nat → Prop} {R0 : Frag} {D : Nat → Prop} {H : Hf} {F : Frag} {r : Loc} {w : World}
theorem Mem.renew (h : Mem w0 S R0 D H F r w) {k : Nat} {ob0 ob : Ob} (hk : H k = some ob0) {w' : World} (hob : ObIs F r (r k) w' ob) (hinn : ob.inn D)
    (hfoot : ∀ b o, ob.foot (r k) b o → ob0.foot (r k) b o) (hf : Fr (ob0.foot (r k)) w w') : Mem w0 S R0 D (updH [(k, ob)] H) F r w' := by
  refine h.step (T := fun j => j = k) (fun _ h => h) (fun _ _ => rfl) (fun j o hn hj => ?_) (fun j o hj ho => ?_) (fun j o b p hj ho hfo => ?_) (fun j j' o o' b p hj hj' _ _ hne _ _ => ?_) ?_ (Frag.le_refl F) (fun b o v hv => .inl hv)
  · rw [updH_cons, if_neg (fun e => hn e.symm)] at hj; exact hj
  · subst hj
    rw [updH_cons, if_pos rfl] at ho
    injection ho with ho; subst ho
    exact ⟨h.dom _ _ hk, hob, hinn⟩
  · subst hj
    rw [updH_cons, if_pos rfl] at ho
    injection ho with ho; subst ho
    exact .inl ⟨j, ob0, rfl, hk, hfoot b p hfo⟩
  · exact hne (hj.trans hj'.symm)
  · exact hf.mono fun b o _ hs => ⟨k, ob0, rfl, hk, hs⟩
theorem Mem.fresh' (h : Mem w0 S R0 D H F r w) {k : Nat} (hk : ¬ D k) {js : List Nat} (hjs : ∀ j ∈ js, D j) {d : Ld} {ob : Ob} {w' : World} (hob : ObIs F (locPut r k d) d w' ob) (hinn : ob.inn (fun j => D j ∨ j = k))
    (hfoot : ∀ b o, ob.foot d b o → (∃ j ob0, j ∈ js ∧ H j = some ob0 ∧ ob0.foot (r j) b o) ∨ w.heap.size ≤ b)
    (hf : Fr (fun b o => ∃ j ob0, j ∈ js ∧ H j = some ob0 ∧ ob0.foot (r j) b o) w w') :
    Mem w0 S R0 (fun j => D j ∨ j = k) (updH ((k, ob) :: deads js) H) F (locPut r k d) w' := by
  have hget : ∀ j o, updH ((k, ob) :: deads js) H j = some o → (j = k ∧ o = ob) ∨ (j ≠ k ∧ j ∈ js ∧ o = .dead) ∨ (j ≠ k ∧ j ∉ js ∧ H j = some o) := fun j o hj => by
    rw [updH_cons] at hj
    split at hj
    · rename_i e; injection hj with hj; exact .inl ⟨e.symm, hj.symm⟩
    · rename_i e
      rcases updH_deads hj with ⟨h1, h2⟩ | ⟨h1, h2⟩
      · exact .inr (.inl ⟨Ne.symm e, h1, h2⟩)
      · exact .inr (.inr ⟨Ne.symm e, h1, h2⟩)
  refine h.step (T := fun j => j = k ∨ (j ∈ js ∧ D j)) (fun _ h => .inl h) (locPut_agree r hk d) (fun j o hn hj => ?_) (fun j o hj ho => ?_) (fun j o b p hj ho hfo => ?_) (fun j j' o o' b p hj hj' ho ho' hne hb hb' => ?_) ?_ (Frag.le_refl F) (fun b o v hv => .inl hv)
  · rcases hget j o hj with ⟨rfl, rfl⟩ | ⟨_, h1, h2⟩ | ⟨_, _, h3⟩
    · exact absurd (.inl rfl) hn
    · subst h2
      exact absurd (.inr ⟨h1, hjs j h1⟩) hn
    · exact h3
  · rcases hget j o ho with ⟨rfl, rfl⟩ | ⟨_, h1, rfl⟩ | ⟨h1, h2, h3⟩
    · rw [locPut_self]; exact ⟨.inr rfl, hob, hinn⟩
    · rcases hj with hj | hj
      · exact absurd hj (by assumption)
      · exact ⟨.inl hj.2, trivial, trivial⟩
    · rcases hj with hj | hj
      · exact absurd hj h1
      · exact absurd hj.1 h2
  · rcases hget j o ho with ⟨rfl, rfl⟩ | ⟨_, h1, rfl⟩ | ⟨h1, h2, h3⟩
    · rw [locPut_self] at hfo
      rcases hfoot b p hfo with ⟨j0, ob0, g1, g2, g3⟩ | g
      · exact .inl ⟨j0, ob0, .inr ⟨g1, h.dom _ _ g2⟩, g2, g3⟩
      · exact .inr g
    · exact hfo.elim
    · rcases hj with hj | hj
      · exact absurd hj h1
      · exact absurd hj.1 h2
  · rcases hget j o ho with ⟨e, _⟩ | ⟨_, _, rfl⟩ | ⟨e1, e2, e3⟩
    · rcases hget j' o' ho' with ⟨e', _⟩ | ⟨_, _, rfl⟩ | ⟨e1', e2', e3'⟩
      · exact hne (e.trans e'.symm)
      · exact hb'
      · rcases hj' with h' | h'
        · exact e1' h'
        · exact e2' h'.1
    · exact hb
    · rcases hj with h' | h'
      · exact e1 h'
      · exact e2 h'.1
  · exact hf.mono fun b o _ ⟨j, ob0, g1, g2, g3⟩ => ⟨j, ob0, .inr ⟨g1, h.dom _ _ g2⟩, g2, g3⟩
end
end Go.Sz
namespace Go.Sz
open Go Go.RowKit Go.Sy
set_option linter.unusedVariables false
set_option linter.unusedSimpArgs false
set_option linter.constructorNameAsVariable false
/-! ### The values of a row -/
theorem RepC.move {G G' F : Frag} : ∀ {ts : Tys} {b o b' o' : Nat} {x : ts.den}, (∀ k, k < ts.len → ∀ v, G b (o + k) = some v → G' b' (o' + k) = some v) → RepC G F b o ts x → RepC G' F b' o' ts x
  | .nil, _, _, _, _, _, _, h => by simp only [RepC]
  | .cons t ts, b, o, b', o', x, hG, h => by
    simp only [RepC] at h ⊢
    obtain ⟨⟨v, h1, h2⟩, h3⟩ := h
    refine ⟨⟨v, by simpa using hG 0 (by simp [Tys.len]) v (by simpa using h1), h2⟩, RepC.move (fun k hk v hv => ?_) h3⟩
    have := hG (k + 1) (by simp only [Tys.len]; omega) v (by rw [← hv]; congr 1; omega)
    rw [← this]; congr 1; omega
def lF (vs : List Value) : Frag := fun _ p => vs[p]?
structure RowVals (F : Frag) (ts : Tys) (l : List ts.den) (vs : List Value) : Prop where
  len : vs.length = l.length * ts.len
  rep : ∀ i x, l[i]? = some x → RepC (lF vs) F 0 (i * ts.len) ts x
  one : ∀ v ∈ vs, v.oneCell' = true
theorem RowVals.mono {F F' : Frag} (hF : F.le F') {ts : Tys} {l : List ts.den} {vs : List Value} (h : RowVals F ts l vs) : RowVals F' ts l vs :=
  ⟨h.len, fun i x hx => (h.rep i x hx).mono (Frag.le_refl _) hF, h.one⟩
theorem RowVals.nil (F : Frag) (ts : Tys) : RowVals F ts [] [] := ⟨by simp, fun i x h => by simp at h, fun v h => by cases h⟩
theorem idx_lt {i n m k : Nat} (h : i < n) (hk : k < m) : i * m + k < n * m := by
  have : (i + 1) * m ≤ n * m := Nat.mul_le_mul_right _ h
  rw [Nat.add_mul] at this; omega
theorem RowVals.append {F : Frag} {ts : Tys} {l l' : List ts.den} {vs vs' : List Value} (h : RowVals F ts l vs) (h' : RowVals F ts l' vs') : RowVals F ts (l ++ l') (vs ++ vs') := by
  refine ⟨by simp [h.len, h'.len, Nat.add_mul], fun i x hx => ?_, fun v hv => ?_⟩
  · by_cases hi : i < l.length
    · rw [List.getElem?_append_left hi] at hx
      refine RepC.move (fun k hk v hv => ?_) (h.rep i x hx)
      have := idx_lt hi hk
      simp only [lF] at hv ⊢
      rw [List.getElem?_append_left (by rw [h.len]; exact this)]
      exact hv
    · rw [List.getElem?_append_right (by omega)] at hx
      refine RepC.move (fun k hk v hv => ?_) (h'.rep _ x hx)
      simp only [lF] at hv ⊢
      have e : i * ts.len + k = l.length * ts.len + ((i - l.length) * ts.len + k) := by
        rw [← Nat.add_assoc, ← Nat.add_mul]; congr 2; omega
      rw [e, List.getElem?_append_right (by rw [h.len]; omega), h.len, Nat.add_sub_cancel_left]
      exact hv
  · rcases List.mem_append.1 hv with hv | hv
    · exact h.one v hv
    · exact h'.one v hv
theorem RowVals.cut {F : Frag} {ts : Tys} {l : List ts.den} {vs : List Value} (h : RowVals F ts l vs) {lo hi : Nat} (h1 : lo ≤ hi) (h2 : hi ≤ l.length) : RowVals F ts (cut l lo hi) ((vs.drop (lo * ts.len)).take ((hi - lo) * ts.len)) := by
  have hlen : (Sz.cut l lo hi).length = hi - lo := by simp [Sz.cut]; omega
  have hm : lo * ts.len + (hi - lo) * ts.len ≤ l.length * ts.len := by rw [← Nat.add_mul]; exact Nat.mul_le_mul_right _ (by omega)
  refine ⟨by rw [hlen]; simp [h.len]; omega, fun i x hx => ?_, fun v hv => h.one v (List.mem_of_mem_drop (List.mem_of_mem_take hv))⟩
  have hi' : i < hi - lo := by have := (List.getElem?_eq_some_iff.1 hx).1; omega
  have hx' : l[lo + i]? = some x := by
    unfold Sz.cut at hx
    rw [List.getElem?_take, if_pos hi', List.getElem?_drop] at hx
    exact hx
  refine RepC.move (fun k hk v hv => ?_) (h.rep _ x hx')
  simp only [lF] at hv ⊢
  rw [List.getElem?_take, if_pos (idx_lt hi' hk), List.getElem?_drop]
  rw [← hv]; congr 1; rw [Nat.add_mul]; omega
theorem RowVals.lies {F G : Frag} {ts : Tys} {l : List ts.den} {vs : List Value} (h : RowVals F ts l vs) {b o : Nat} (hG : ∀ i v, vs[i]? = some v → G b (o + i) = some v) : ∀ i x, l[i]? = some x → RepC G F b (o + i * ts.len) ts x := fun i x hx =>
  RepC.move (fun k hk v hv => by rw [Nat.add_assoc]; exact hG _ _ hv) (h.rep i x hx)
theorem rowVals_of {G F : Frag} {b o : Nat} {ts : Tys} : ∀ {l : List ts.den}, (∀ i x, l[i]? = some x → RepC G F b (o + i * ts.len) ts x) → ∃ vs, RowVals F ts l vs ∧ ∀ i v, vs[i]? = some v → G b (o + i) = some v := by
  intro l
  induction l generalizing o with
  | nil => exact fun _ => ⟨[], RowVals.nil F ts, fun i v h => by simp at h⟩
  | cons x l ih =>
    intro h
    obtain ⟨vs, g1, g2⟩ := ih (o := o + ts.len) (fun i y hy => by
      have := h (i + 1) y (by simpa using hy)
      rw [Nat.add_mul, Nat.one_mul] at this
      rw [show o + ts.len + i * ts.len = o + (i * ts.len + ts.len) by omega]; exact this)
    have h0 := h 0 x rfl
    simp only [Nat.zero_mul, Nat.add_zero] at h0
    obtain ⟨us, k1, k2, k3, k4⟩ := cellsOf_rep (r := fun _ => ⟨0, 0, undef⟩) h0
    have hx : RowVals F ts [x] us := by
      refine ⟨by simp [k1], fun i y hy => ?_, k4⟩
      cases i with
      | zero =>
        simp at hy; subst hy
        refine RepC.move (fun k hk v hv => ?_) h0
        simp only [lF]
        have e := List.getElem?_eq_getElem (l := us) (i := k) (by omega)
        have := k2 k _ e
        rw [hv] at this
        injection this with this
        rw [Nat.zero_mul, Nat.zero_add, e, this]
      | succ i => simp at hy
    refine ⟨us ++ vs, hx.append g1, fun i v hv => ?_⟩
    by_cases hi : i < us.length
    · rw [List.getElem?_append_left hi] at hv; exact k2 i v hv
    · rw [List.getElem?_append_right (by omega)] at hv
      have := g2 _ v hv
      rw [← this]; congr 1; omega
theorem obIs_row {F : Frag} {r : Loc} {w : World} {ts : Tys} {l : List ts.den} {vs : List Value} (h : RowVals F ts l vs) {b o cap : Nat} (hc : l.length ≤ cap) (hm : cap ≤ maxLen) (ht : w.there b o (cap * ts.len)) (hr : w.rangeAt b o vs) :
    ObIs F r ⟨b, o, .slice (some ⟨b, o, none⟩) l.length cap⟩ w (.row ts l) :=
  .inr ⟨cap, rfl, hc, hm, ht, h.lies (fun i v hv => hr i v hv)⟩
/-! ### From cells to data -/
def iOf (k : IntKind) : Cell → Option Int
  | .v (.int k' n) => if k' = k then some n else none
  | _ => none
def bOf : Cell → Option Bool
  | .v (.bool x) => some x
  | _ => none
def sOf : Cell → Option ByteArray
  | .v (.string s) => some s
  | _ => none
def ofCell : (t : Ty) → Cell → Option t.den
  | .w k, c => wOf k c
  | .i k, c => iOf k c
  | .b, c => bOf c
  | .str, c => sOf c
  | .sl ts, c => dOf ts c
def ofCells : (ts : Tys) → List Cell → Option ts.den
  | .nil, [] => some ()
  | .cons t ts, c :: cs => match ofCell t c, ofCells ts cs with
    | some x, some xs => some (x, xs)
    | _, _ => none
  | _, _ => none
section
variable {F : Frag} {r : Loc}
theorem iOf_rep {k : IntKind} {c : Cell} {n : Int} (h : iOf k c = some n) {u : Value} (hu : c.rep F r u) : u = .int k n := by
  unfold iOf at h
  split at h
  · split at h
    · rename_i e; subst e; injection h with h; subst h; exact hu
    · cases h
  · cases h
theorem bOf_rep {c : Cell} {n : Bool} (h : bOf c = some n) {u : Value} (hu : c.rep F r u) : u = .bool n := by
  unfold bOf at h
  split at h
  · injection h with h; subst h; exact hu
  · cases h
theorem sOf_rep {c : Cell} {n : ByteArray} (h : sOf c = some n) {u : Value} (hu : c.rep F r u) : u = .string n := by
  unfold sOf at h
  split at h
  · injection h with h; subst h; exact hu
  · cases h
theorem ofCell_rep : ∀ {t : Ty} {c : Cell} {x : t.den} (h : ofCell t c = some x) {u : Value} (hu : c.rep F r u), RepT F t x u
  | .w k, c, x, h, u, hu => by simp only [RepT]; exact wOf_rep h hu
  | .i k, c, x, h, u, hu => by simp only [RepT]; exact iOf_rep h hu
  | .b, c, x, h, u, hu => by simp only [RepT]; exact bOf_rep h hu
  | .str, c, x, h, u, hu => by simp only [RepT]; exact sOf_rep h hu
  | .sl ts, c, x, h, u, hu => dOf_rep h hu
theorem ofCells_spec : ∀ {ts : Tys} {cs : List Cell} {x : ts.den} {vs : List Value}, ofCells ts cs = some x → cellsRep F r cs vs → vs.length = ts.len ∧ ∀ {G : Frag} {b o : Nat}, (∀ i v, vs[i]? = some v → G b (o + i) = some v) → RepC G F b o ts x
  | .nil, [], x, [], h, _ => ⟨rfl, fun _ => by simp only [RepC]⟩
  | .nil, [], _, _ :: _, _, h => h.elim
  | .nil, _ :: _, _, _, h, _ => by cases h
  | .cons t ts, [], _, _, h, _ => by cases h
  | .cons t ts, _ :: _, _, [], _, h => h.elim
  | .cons t ts, c :: cs, x, v :: vs, h, hr => by
    simp only [ofCells] at h
    split at h
    · rename_i y ys hy hys
      injection h with h; subst h
      obtain ⟨h1, h2⟩ := ofCells_spec hys hr.2
      refine ⟨by simp [h1, Tys.len], fun {G b o} hG => ?_⟩
      simp only [RepC]
      exact ⟨⟨v, by simpa using hG 0 v rfl, ofCell_rep hy hr.1⟩, h2 fun i u hu => by
        have := hG (i + 1) u (by simpa using hu)
        rw [← this]; congr 1; omega⟩
    · cases h
theorem rowVals_one {ts : Tys} {cs : List Cell} {x : ts.den} {vs : List Value} (h : ofCells ts cs = some x) (hr : cellsRep F r cs vs) (h1 : ∀ v ∈ vs, v.oneCell' = true) : RowVals F ts [x] vs := by
  obtain ⟨g1, g2⟩ := ofCells_spec h hr
  refine ⟨by simp [g1], fun i y hy => ?_, h1⟩
  cases i with
  | zero =>
    simp at hy; subst hy
    refine g2 fun i v hv => ?_
    simpa [lF] using hv
  | succ i => simp at hy
end
/-! ### What is given away: from here on nobody writes it -/
section
variable {w0 : World} {S : Nat → Nat → Prop} {R0 : Frag} {D : Nat → Prop} {H : Hf} {F : Frag} {r : Loc} {w : World}
theorem Mem.freeze (h : Mem w0 S R0 D H F r w) {j : Nat} {ts : Tys} {l : List ts.den} (hj : H j = some (.row ts l)) : ∃ F', F.le F' ∧ Mem w0 S R0 D (updH [(j, .frz ts l)] H) F' r w := by
  classical
  let inR : Nat → Nat → Prop := fun b o => b = (r j).b ∧ (r j).o ≤ o ∧ o < (r j).o + l.length * ts.len ∧ (Ob.row ts l).foot (r j) b o
  let F' : Frag := fun b o => match F b o with
    | some v => some v
    | none => if inR b o then w.cell? ⟨b, o, none⟩ else none
  have hle : F.le F' := fun b o v hv => by simp only [F', hv]
  have hF' : ∀ b o v, F' b o = some v → F b o = some v ∨ (inR b o ∧ w.cell? ⟨b, o, none⟩ = some v) := fun b o v hv => by
    simp only [F'] at hv
    split at hv
    · rename_i v' hv'; injection hv with hv; subst hv; exact .inl hv'
    · split at hv
      · rename_i hr; exact .inr ⟨hr, hv⟩
      · cases hv
  refine ⟨F', hle, h.step (T := fun k => k = j) (fun _ h => h) (fun _ _ => rfl) (fun k o hn hk => ?_) (fun k o hk ho => ?_) (fun k o b p hk ho hfo => ?_) (fun k k' o o' b p hk hk' _ _ hne _ _ => ?_) (Fr.refl _ _) hle (fun b o v hv => ?_)⟩
  · rw [updH_cons, if_neg (fun e => hn e.symm)] at hk; exact hk
  · subst hk
    rw [updH_cons, if_pos rfl] at ho
    injection ho with ho; subst ho
    refine ⟨h.dom _ _ hj, ?_, trivial⟩
    have hob := h.obs _ _ hj
    show RepT F' (.sl ts) l (r k).hv
    rcases hob with ⟨h1, h2⟩ | ⟨cap, h1, h2, h3, h4, h5⟩
    · rw [h1, h2]; exact repT_nil ts
    · simp only [RepT]
      refine ⟨_, cap, h1, h2, h3, fun _ => ⟨_, _, rfl, fun i x hx => ?_⟩⟩
      have hi : i < l.length := (List.getElem?_eq_some_iff.1 hx).1
      refine RepC.congr hle (fun q hq v hv => ?_) (h5 i x hx)
      have hlt := idx_lt (k := q) hi hq
      have hcap : l.length * ts.len ≤ cap * ts.len := Nat.mul_le_mul_right _ h2
      have hin : inR (r k).b ((r k).o + i * ts.len + q) := ⟨rfl, by omega, by omega, _, _, h1, rfl, by omega, by omega⟩
      simp only [F']
      cases hF : F (r k).b ((r k).o + i * ts.len + q) with
      | some v' =>
        have := h.fin _ _ _ hF
        simp only [memF] at hv
        rw [hv] at this; simpa using this.symm
      | none =>
        simp only [memF] at hv
        simp only [if_pos hin]; exact hv
  · subst hk
    rw [updH_cons, if_pos rfl] at ho
    injection ho with ho; subst ho
    exact hfo.elim
  · exact hne (hk.trans hk'.symm)
  · rcases hF' b o v hv with h1 | ⟨h1, h2⟩
    · exact .inl h1
    · refine .inr ⟨h2, .inl ⟨j, _, rfl, hj, h1.2.2.2⟩, fun k ob hk hob hfo => ?_⟩
      subst hk
      rw [updH_cons, if_pos rfl] at hob
      injection hob with hob; subst hob
      exact hfo
end
def deepC (H : Hf) : Cell → Option (Cell × List (Nat × Ob))
  | .h j => match H j with
    | some (.row ts l) => some (.d ts l, [(j, .frz ts l)])
    | some (.frz ts l) => some (.d ts l, [])
    | _ => none
  | c => some (c, [])
def deepL (H : Hf) : List Cell → Option (List Cell × List (Nat × Ob))
  | [] => some ([], [])
  | c :: cs => match deepC H c with
    | some (d, ups) => match deepL (updH ups H) cs with
      | some (ds, ups') => some (d :: ds, ups' ++ ups)
      | none => none
    | none => none
theorem updH_append : ∀ (a b : List (Nat × Ob)) (H : Hf), updH (a ++ b) H = updH a (updH b H)
  | [], b, H => rfl
  | (k, ob) :: a, b, H => by
    funext j
    rw [List.cons_append, updH_cons, updH_cons, updH_append a b H]
section
variable {w0 : World} {S : Nat → Nat → Prop} {R0 : Frag} {D : Nat → Prop} {H : Hf} {F : Frag} {r : Loc} {w : World}
theorem updH_sub {Hr H : Hf} (hs : ∀ j ob, Hr j = some ob → H j = some ob) : ∀ (l : List (Nat × Ob)), ∀ j ob, updH l Hr j = some ob → updH l H j = some ob
  | [] => hs
  | (k, o) :: l => fun j ob h => by
    rw [updH_cons] at h ⊢
    split
    · rename_i e; rw [if_pos e] at h; exact h
    · rename_i e; rw [if_neg e] at h; exact updH_sub hs l j ob h
theorem deepC_spec {Hr : Hf} (hs : ∀ j ob, Hr j = some ob → H j = some ob) (h : Mem w0 S R0 D H F r w) {c d : Cell} {ups : List (Nat × Ob)} (hd : deepC Hr c = some (d, ups)) (hc : c.inn D) :
    ∃ F', F.le F' ∧ Mem w0 S R0 D (updH ups H) F' r w ∧ d.inn D ∧ ∀ u, c.rep F r u → d.rep F' r u := by
  unfold deepC at hd
  split at hd
  · rename_i j
    split at hd
    · rename_i ts l hj
      injection hd with hd; injection hd with h1 h2; subst h1 h2
      obtain ⟨F', g1, g2⟩ := h.freeze (hs _ _ hj)
      refine ⟨F', g1, g2, trivial, fun u hu => ?_⟩
      have := g2.obs j (.frz ts l) (by rw [updH_cons, if_pos rfl])
      show RepT F' (.sl ts) l u
      rw [hu.1]; exact this
    · rename_i ts l hj
      injection hd with hd; injection hd with h1 h2; subst h1 h2
      refine ⟨F, Frag.le_refl F, h, trivial, fun u hu => ?_⟩
      show RepT F (.sl ts) l u
      rw [hu.1]; exact h.obs j _ (hs _ _ hj)
    · cases hd
  · injection hd with hd; injection hd with h1 h2; subst h1 h2
    exact ⟨F, Frag.le_refl F, h, hc, fun u hu => hu⟩
theorem deepL_spec : ∀ {cs ds : List Cell} {ups : List (Nat × Ob)} {Hr H : Hf} {F : Frag} (hs : ∀ j ob, Hr j = some ob → H j = some ob) (h : Mem w0 S R0 D H F r w), deepL Hr cs = some (ds, ups) → (∀ c ∈ cs, c.inn D) →
    ∃ F', F.le F' ∧ Mem w0 S R0 D (updH ups H) F' r w ∧ (∀ d ∈ ds, d.inn D) ∧ ds.length = cs.length ∧ ∀ us, cellsRep F r cs us → cellsRep F' r ds us
  | [], ds, ups, Hr, H, F, hs, h, hd, hc => by
    simp only [deepL, Option.some.injEq, Prod.mk.injEq] at hd
    obtain ⟨rfl, rfl⟩ := hd
    exact ⟨F, Frag.le_refl F, h, fun d hd => (by cases hd), rfl, fun us hu => hu⟩
  | c :: cs, ds, ups, Hr, H, F, hs, h, hd, hc => by
    simp only [deepL] at hd
    split at hd
    · rename_i d ups1 hd1
      split at hd
      · rename_i ds2 ups2 hd2
        simp only [Option.some.injEq, Prod.mk.injEq] at hd
        obtain ⟨rfl, rfl⟩ := hd
        obtain ⟨F1, g1, g2, g3, g4⟩ := deepC_spec hs h hd1 (hc c List.mem_cons_self)
        obtain ⟨F2, k1, k2, k3, k5, k4⟩ := deepL_spec (updH_sub hs ups1) g2 hd2 (fun x hx => hc x (List.mem_cons_of_mem _ hx))
        refine ⟨F2, Frag.le_trans g1 k1, by rw [updH_append]; exact k2, fun x hx => ?_, by simp [k5], fun us hu => ?_⟩
        · rcases List.mem_cons.1 hx with rfl | hx
          · exact g3
          · exact k3 x hx
        · cases us with
          | nil => exact hu.elim
          | cons u us =>
            refine ⟨Cell.rep_to k1 (fun _ _ => rfl) g3 (g4 u hu.1), k4 us ?_⟩
            exact cellsRep_to g1 (fun _ _ => rfl) (fun x hx => hc x (List.mem_cons_of_mem _ hx)) hu.2
      · cases hd
    · cases hd
end
end Go.Sz
namespace Go.Sz
open Go Go.RowKit Go.Sy
set_option linter.unusedVariables false
set_option linter.unusedSimpArgs false
set_option linter.constructorNameAsVariable false
/-! ### What a slice holds -/
def litRows (ts : Tys) : Nat → List Cell → Option (List ts.den)
  | 0, _ => some []
  | n + 1, cs => match takeX ts.len cs with
    | some a => match ofCells ts a, litRows ts n (cs.drop ts.len) with
      | some x, some xs => some (x :: xs)
      | _, _ => none
    | none => none
def strRows (s : ByteArray) : List (Tys.den (.cons (.w .u8) .nil)) := s.data.toList.map fun b => (b.toBitVec, ())
def contT (H : Hf) (ts : Tys) : Cell → Tree (List ts.den)
  | .d _ l => Tree.ofOpt (toL ts l)
  | .h j => match H j with
    | some (.row _ l) => Tree.ofOpt (toL ts l)
    | some (.frz _ l) => Tree.ofOpt (toL ts l)
    | _ => .fail
  | .hs j sz lo n mx => match H j with
    | some (.row _ l) => match toL ts l with
      | some l' => .ck (Nat.ble (lo + n) l'.length && (Nat.beq sz ts.len && (Nat.beq n 0 || mxGt lo mx))) (.ret (cut l' lo (lo + n)))
      | none => .fail
    | _ => .fail
  | .s j off sz n _ => match H j with
    | some (.lit l) => bif Nat.beq sz ts.len then Tree.ofOpt (litRows ts n (l.drop off)) else .fail
    | _ => .fail
  | .v (.slice _ 0 _) => .ret []
  | .v (.string s) => Tree.ofOpt (toL ts (strRows s))
  | _ => .fail
section
variable {P : Program} {F : Frag} {r : Loc} {D : Nat → Prop} {w : World} {H : Hf}
theorem toL_vals {ts ts' : Tys} {l : List ts.den} {l' : List ts'.den} (h : toL ts' l = some l') : ts = ts' ∧ HEq l l' ∧ l'.length = l.length := by
  unfold toL at h
  split at h
  · rename_i e
    have := Tys.eqb_eq e
    subst this
    injection h with h; subst h
    exact ⟨rfl, HEq.rfl, rfl⟩
  · cases h
theorem litRows_vals {ts : Tys} : ∀ {n : Nat} {cs : List Cell} {xs : List ts.den} {vs : List Value}, litRows ts n cs = some xs → cellsRep F r cs vs → (∀ v ∈ vs, v.oneCell' = true) →
    xs.length = n ∧ n * ts.len ≤ vs.length ∧ RowVals F ts xs (vs.take (n * ts.len))
  | 0, cs, xs, vs, h, hr, h1 => by
    simp [litRows] at h; subst h
    refine ⟨rfl, by simp, ?_⟩
    rw [Nat.zero_mul, List.take_zero]; exact RowVals.nil F ts
  | n + 1, cs, xs, vs, h, hr, h1 => by
    simp only [litRows] at h
    split at h
    · rename_i a ha
      split at h
      · rename_i x ys hx hys
        injection h with h; subst h
        obtain ⟨e1, e2⟩ := takeX_spec _ _ _ ha
        have hra : cellsRep F r a (vs.take ts.len) := by rw [e1]; exact cellsRep_take _ hr
        have hla := cellsRep_length hra
        have g0 := rowVals_one hx hra (fun v hv => h1 v (List.mem_of_mem_take hv))
        obtain ⟨g1, g2, g3⟩ := litRows_vals hys (cellsRep_drop ts.len hr) (fun v hv => h1 v (List.mem_of_mem_drop hv))
        have hle : ts.len ≤ vs.length := by simp at hla; omega
        simp only [List.length_drop] at g2
        refine ⟨by simp [g1], by rw [Nat.add_mul]; omega, ?_⟩
        have := g0.append g3
        rw [List.singleton_append] at this
        have e : vs.take ((n + 1) * ts.len) = vs.take ts.len ++ (vs.drop ts.len).take (n * ts.len) := by
          rw [Nat.add_mul, Nat.one_mul, Nat.add_comm, List.take_add]
        rw [e]; exact this
      · cases h
    · cases h
def Reads (P : Program) (w : World) (sz m : Nat) (u : Value) (vs : List Value) : Prop :=
  Builtin.lenOf u = pure m ∧ vs.length = m * sz ∧ ∀ n, n ≤ m → ∀ W : World, W.heap = w.heap → (Builtin.firstCells sz n u).run P W = .ok (vs.take (n * sz)).toArray W
theorem Reads.full {sz m : Nat} {u : Value} {vs : List Value} (h : Reads P w sz m u vs) (W : World) (hW : W.heap = w.heap) : (Builtin.firstCells sz m u).run P W = .ok vs.toArray W := by
  have := h.2.2 m (Nat.le_refl _) W hW
  rw [this, List.take_of_length_le (by rw [h.2.1]; exact Nat.le_refl _)]
theorem reads_slice {a : Option Addr} {b o m cap sz : Nat} {vs : List Value} (hl : vs.length = m * sz) (ha : m * sz ≠ 0 → a = some ⟨b, o, none⟩) (h : ∀ i v, vs[i]? = some v → w.cell? ⟨b, o + i, none⟩ = some v) :
    Reads P w sz m (.slice a m cap) vs := by
  refine ⟨rfl, hl, fun n hn W hW => ?_⟩
  have hle : n * sz ≤ m * sz := Nat.mul_le_mul_right _ hn
  cases a with
  | none =>
    have h0 : m * sz = 0 := by
      by_cases h0 : m * sz = 0
      · exact h0
      · cases ha h0
    have : vs = [] := List.length_eq_zero_iff.1 (by omega)
    subst this
    rw [List.take_nil]
    exact run_firstCells_none W sz n m cap
  | some a =>
    refine run_firstCells_some (P := P) W sz n a m cap (vs.take (n * sz)) (by rw [List.length_take]; omega) (fun j v hv => ?_)
    have hj : j < n * sz := by
      have := (List.getElem?_eq_some_iff.1 hv).1
      rw [List.length_take] at this
      exact Nat.lt_of_lt_of_le this (Nat.min_le_left _ _)
    rw [List.getElem?_take, if_pos hj] at hv
    have := ha (by omega)
    injection this with this; subst this
    rw [Addr.add_mid]
    have := h j v hv
    unfold World.cell? at this ⊢
    rw [hW]; exact this
theorem rowVals_cast {ts ts' : Tys} {l : List ts.den} {l' : List ts'.den} (h : toL ts' l = some l') {vs : List Value} (hv : RowVals F ts l vs) : RowVals F ts' l' vs := by
  obtain ⟨e, e2, _⟩ := toL_vals h
  subst e
  rw [← eq_of_heq e2]; exact hv
theorem repT_vals (hF : F.le (memF w)) {ts : Tys} {l : List ts.den} {u : Value} (h : RepT F (.sl ts) l u) : ∃ vs, RowVals F ts l vs ∧ Reads P w ts.len l.length u vs := by
  simp only [RepT] at h
  obtain ⟨a, cap, rfl, h1, h2, h3⟩ := h
  by_cases hl : l = []
  · subst hl
    exact ⟨[], RowVals.nil F ts, reads_slice (b := 0) (o := 0) (by simp) (fun h => absurd (by simp) h) (fun i v h => by simp at h)⟩
  · obtain ⟨b, o, rfl, h4⟩ := h3 hl
    obtain ⟨vs, g1, g2⟩ := rowVals_of h4
    exact ⟨vs, g1, reads_slice g1.len (fun _ => rfl) (fun i v hv => hF _ _ _ (g2 i v hv))⟩
theorem row_vals {ts : Tys} {l : List ts.den} {d : Ld} (h : ObIs F r d w (.row ts l)) : ∃ vs, RowVals F ts l vs ∧ w.rangeAt d.b d.o vs := by
  rcases h with ⟨h1, h2⟩ | ⟨cap, h1, h2, h3, h4, h5⟩
  · subst h2; exact ⟨[], RowVals.nil F ts, fun i v h => by simp at h⟩
  · obtain ⟨vs, g1, g2⟩ := rowVals_of h5
    exact ⟨vs, g1, fun i v hv => g2 i v hv⟩
theorem row_nil {ts : Tys} {l : List ts.den} {d : Ld} (h : ObIs F r d w (.row ts l)) : (d.hv = .slice none 0 0 ∧ l = []) ∨ ∃ cap, d.hv = .slice (some ⟨d.b, d.o, none⟩) l.length cap ∧ l.length ≤ cap ∧ cap ≤ maxLen ∧ w.there d.b d.o (cap * ts.len) := by
  rcases h with h | ⟨cap, h1, h2, h3, h4, h5⟩
  · exact .inl h
  · exact .inr ⟨cap, h1, h2, h3, h4⟩
theorem strRows_len (s : ByteArray) : (strRows s).length = s.size := by simp [strRows]
theorem strRows_vals (s : ByteArray) : RowVals F (.cons (.w .u8) .nil) (strRows s) (s.data.toList.map fun b => .int .u8 b.toNat) ∧ Reads P w 1 s.size (.string s) (s.data.toList.map fun b => .int .u8 b.toNat) := by
  refine ⟨⟨by simp [strRows, Tys.len], fun i x hx => ?_, fun v hv => ?_⟩, rfl, ?_, fun n hn W _ => ?_⟩
  · unfold strRows at hx
    rw [List.getElem?_map] at hx
    cases hb : s.data.toList[i]? with
    | none => rw [hb] at hx; cases hx
    | some b =>
      rw [hb] at hx
      simp only [Option.map_some, Option.some.injEq] at hx; subst hx
      simp only [RepC, RepT, and_true]
      refine ⟨.int .u8 b.toNat, ?_, rfl⟩
      simp only [lF, Tys.len, Nat.zero_add, Nat.mul_one, List.getElem?_map, hb, Option.map_some]
  · obtain ⟨b, _, rfl⟩ := List.mem_map.1 hv; rfl
  · simp
  · simp only [Builtin.firstCells, Sem.run_pure]
    congr 1
    apply Array.ext'; simp [List.map_take]
theorem contT_run (hs : Sees F r D H w) {ts : Tys} {c : Cell} {xs : List ts.den} (h : (contT H ts c).run = some xs) {u : Value} (hu : c.rep F r u) :
    ∃ vs, RowVals F ts xs vs ∧ Reads P w ts.len xs.length u vs := by
  unfold contT at h
  split at h
  · rename_i ts' l
    rw [Tree.run_ofOpt] at h
    obtain ⟨vs, g1, g2⟩ := repT_vals (P := P) hs.fin (show RepT F (.sl ts') l u from hu)
    obtain ⟨e, _, e3⟩ := toL_vals h
    exact ⟨vs, rowVals_cast h g1, by rw [e3, ← e]; exact g2⟩
  · rename_i j
    split at h
    · rename_i ts' l hj
      rw [Tree.run_ofOpt] at h
      obtain ⟨e, _, e3⟩ := toL_vals h
      obtain ⟨vs, g1, g2⟩ := row_vals (hs.obs j _ hj)
      refine ⟨vs, rowVals_cast h g1, ?_⟩
      rw [e3, ← e, hu.1]
      rcases row_nil (hs.obs j _ hj) with ⟨k1, k2⟩ | ⟨cap, k1, _⟩
      · rw [k1, k2]
        exact reads_slice (b := (r j).b) (o := (r j).o) (by rw [g1.len, k2]) (fun h => absurd (by simp) h) (fun i v hv => g2 i v hv)
      · rw [k1]
        exact reads_slice g1.len (fun _ => rfl) (fun i v hv => g2 i v hv)
    · rename_i ts' l hj
      rw [Tree.run_ofOpt] at h
      obtain ⟨vs, g1, g2⟩ := repT_vals (P := P) hs.fin (show RepT F (.sl ts') l u by rw [hu.1]; exact hs.obs j _ hj)
      obtain ⟨e, _, e3⟩ := toL_vals h
      exact ⟨vs, rowVals_cast h g1, by rw [e3, ← e]; exact g2⟩
    · cases h
  · rename_i j sz lo n mx
    split at h
    · rename_i ts' l hj
      split at h
      · rename_i l' hl
        obtain ⟨hck, h⟩ := Tree.run_ck h
        simp only [Tree.run, Option.some.injEq] at h; subst h
        simp only [Bool.and_eq_true] at hck
        have hle : lo + n ≤ l'.length := Nat.le_of_ble_eq_true hck.1
        have hsz : sz = ts.len := Nat.eq_of_beq_eq_true hck.2.1
        obtain ⟨e, _, e3⟩ := toL_vals hl
        obtain ⟨vs, g1, g2⟩ := row_vals (hs.obs j _ hj)
        have g1' := rowVals_cast hl g1
        have hc := g1'.cut (lo := lo) (hi := lo + n) (by omega) hle
        have hlen : (cut l' lo (lo + n)).length = n := by simp [cut]; omega
        refine ⟨_, hc, ?_⟩
        rw [hlen, hu.1]
        have hgen : ∀ (a : Option Addr) (cap : Nat), (r j).hv = .slice a l.length cap → l.length ≤ cap → (n ≠ 0 → a = some ⟨(r j).b, (r j).o, none⟩) →
            Reads P w ts.len n (subHdr (r j).hv sz lo n mx) ((vs.drop (lo * ts.len)).take ((lo + n - lo) * ts.len)) := by
          intro a cap hhv hcap ha
          rw [hhv]
          refine reads_slice (b := (r j).b) (o := (r j).o + lo * ts.len) (by rw [hc.len, hlen]) (fun hne => ?_) (fun i v hv => ?_)
          · have hn : n ≠ 0 := fun e => by subst e; simp at hne
            rw [ha hn]
            have hmx : mx.getD cap ≠ lo := by
              cases mx with
              | none => simp; omega
              | some m =>
                have h2 := hck.2.2
                simp only [Bool.or_eq_true] at h2
                rcases h2 with h2 | h2
                · exact absurd (Nat.eq_of_beq_eq_true h2) hn
                · have : lo < m := Nat.le_of_ble_eq_true h2
                  simp; omega
            rw [if_neg hmx, hsz]
            simp [Addr.add_mid]
          · have hi : i < (lo + n - lo) * ts.len := by
              have := (List.getElem?_eq_some_iff.1 hv).1
              rw [List.length_take] at this
              exact Nat.lt_of_lt_of_le this (Nat.min_le_left _ _)
            rw [List.getElem?_take, if_pos hi, List.getElem?_drop] at hv
            have := g2 _ v hv
            rw [← Nat.add_assoc] at this; exact this
        rcases row_nil (hs.obs j _ hj) with ⟨k1, k2⟩ | ⟨cap, k1, k2, _⟩
        · refine hgen none 0 (by rw [k1, k2]; rfl) (by rw [k2]; simp) (fun hn => ?_)
          rw [e3, k2] at hle; simp at hle; omega
        · exact hgen _ cap k1 k2 (fun _ => rfl)
      · cases h
    · cases h
  · rename_i j off sz n cap
    split at h
    · rename_i l hj
      cases hb : Nat.beq sz ts.len with
      | false => rw [hb] at h; cases h
      | true =>
        rw [hb] at h
        simp only [cond_true, Tree.run_ofOpt] at h
        obtain ⟨us, k1, k2, k3, k4⟩ := hs.obs j _ hj
        obtain ⟨g1, g2, g3⟩ := litRows_vals h (cellsRep_drop off k1) (fun v hv => k4 v (List.mem_of_mem_drop hv))
        refine ⟨_, g3, ?_⟩
        rw [g1, show u = _ from hu]
        refine reads_slice (by rw [g3.len, g1]) (fun _ => rfl) (fun i v hv => ?_)
        have hi : i < n * ts.len := by
          have := (List.getElem?_eq_some_iff.1 hv).1
          simp at this; omega
        rw [List.getElem?_take, if_pos hi, List.getElem?_drop] at hv
        have := k2 _ v hv
        rw [← Nat.add_assoc] at this; exact this
    · cases h
  · simp only [Tree.run, Option.some.injEq] at h; subst h
    refine ⟨[], RowVals.nil F ts, ?_⟩
    rename_i a0 c0
    rw [show u = .slice a0 0 c0 from hu]
    exact reads_slice (b := 0) (o := 0) (by simp) (fun h => absurd (by simp) h) (fun i v h => by simp at h)
  · rename_i s
    rw [Tree.run_ofOpt] at h
    obtain ⟨e, _, e3⟩ := toL_vals h
    obtain ⟨g1, g2⟩ := strRows_vals (F := F) (P := P) (w := w) s
    refine ⟨_, rowVals_cast h g1, ?_⟩
    rw [e3, strRows_len, ← e, show u = .string s from hu]
    exact g2
  · cases h
end
end Go.Sz
