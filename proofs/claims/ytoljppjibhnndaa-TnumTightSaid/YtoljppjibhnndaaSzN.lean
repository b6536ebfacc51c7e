/-
  A symbolic machine for one call, with rows of any length: variables, stores, copies.
-/
import Derived.Test.YtoljppjibhnndaaSzM
namespace Go.Sz
open Go Go.RowKit Go.Sy
set_option linter.unusedVariables false
set_option linter.unusedSimpArgs false
set_option linter.constructorNameAsVariable false

/-! ### The cells of a type -/
def Tys.app : Tys → Tys → Tys
  | .nil, b => b
  | .cons t ts, b => .cons t (ts.app b)
def Tys.rept (ts : Tys) : Nat → Tys
  | 0 => .nil
  | n + 1 => ts.app (ts.rept n)
def flatFs (rec : TypeId → Option Tys) : List Field → Option Tys
  | [] => some .nil
  | f :: fs => match rec f.type, flatFs rec fs with
    | some a, some b => some (a.app b)
    | _, _ => none
def flatT (P : Program) : Nat → TypeId → Option Tys
  | 0, _ => none
  | n + 1, t => match P.underlying t with
    | some .bool => some (.cons .b .nil)
    | some (.int k) => some (.cons (bif k.signed then .i k else .w k) .nil)
    | some .string => some (.cons .str .nil)
    | some (.slice e) => match flatT P n e with
      | some ts => some (.cons (.sl ts) .nil)
      | none => none
    | some (.struct fs) => flatFs (flatT P n) fs.toList
    | some (.array m e) => match flatT P n e with
      | some ts => some (ts.rept m)
      | none => none
    | _ => none

def tsFor (P : Program) (H : Hf) (e : TypeId) : Cell → Option Tys
  | .h j => match H j with
    | some (.row ts _) => some ts
    | some (.frz ts _) => some ts
    | _ => none
  | .hs j _ _ _ _ => match H j with
    | some (.row ts _) => some ts
    | _ => none
  | .d ts _ => some ts
  | _ => flatT P 12 e

/-! ### A cell put at an index -/
def mergeC (b : Bool) : Cell → Cell → Option Cell
  | .w k x, c => match wOf k c with
    | some y => some (.w k (bif b then x else y))
    | none => none
  | .v (.int k x), c => match iOf k c with
    | some y => some (.v (.int k (bif b then x else y)))
    | none => none
  | .v (.bool x), c => match bOf c with
    | some y => some (.v (.bool (bif b then x else y)))
    | none => none
  | .v (.string x), c => match sOf c with
    | some y => some (.v (.string (bif b then x else y)))
    | none => none
  | .d ts x, c => match dOf ts c with
    | some y => some (.d ts (bif b then x else y))
    | none => none
  | .v (.slice none 0 0), c => match c with
    | .d ts y => some (.d ts (bif b then [] else y))
    | .v (.slice none 0 0) => some (.v (.slice none 0 0))
    | _ => none
  | _, _ => none

theorem mergeC_spec {F : Frag} {r : Loc} {b : Bool} {x y z : Cell} (h : mergeC b x y = some z) : (∀ D, z.inn D) ∧ (b = true → ∀ u, x.rep F r u → z.rep F r u) ∧ (b = false → ∀ u, y.rep F r u → z.rep F r u) := by
  unfold mergeC at h
  split at h
  · split at h
    · rename_i y' hy
      injection h with h; subst h
      exact ⟨fun _ => trivial, fun e u hu => by subst e; exact hu, fun e u hu => by subst e; exact wOf_rep hy hu⟩
    · cases h
  · split at h
    · rename_i y' hy
      injection h with h; subst h
      exact ⟨fun _ => trivial, fun e u hu => by subst e; exact hu, fun e u hu => by subst e; exact iOf_rep hy hu⟩
    · cases h
  · split at h
    · rename_i y' hy
      injection h with h; subst h
      exact ⟨fun _ => trivial, fun e u hu => by subst e; exact hu, fun e u hu => by subst e; exact bOf_rep hy hu⟩
    · cases h
  · split at h
    · rename_i y' hy
      injection h with h; subst h
      exact ⟨fun _ => trivial, fun e u hu => by subst e; exact hu, fun e u hu => by subst e; exact sOf_rep hy hu⟩
    · cases h
  · split at h
    · rename_i y' hy
      injection h with h; subst h
      exact ⟨fun _ => trivial, fun e u hu => by subst e; exact hu, fun e u hu => by subst e; exact dOf_rep hy hu⟩
    · cases h
  · split at h
    · injection h with h; subst h
      exact ⟨fun _ => trivial, fun e u hu => by subst e; rw [show u = _ from hu]; exact repT_nil _, fun e u hu => by subst e; exact hu⟩
    · injection h with h; subst h
      exact ⟨fun _ => trivial, fun e u hu => hu, fun e u hu => hu⟩
    · cases h
  · cases h

def setNth {α : Type} : List α → Nat → α → List α
  | [], _, _ => []
  | _ :: l, 0, x => x :: l
  | a :: l, n + 1, x => a :: setNth l n x

theorem setNth_eq {α : Type} : ∀ (l : List α) (n : Nat) (x : α), setNth l n x = l.set n x
  | [], _, _ => rfl
  | _ :: _, 0, _ => rfl
  | a :: l, n + 1, x => by simp [setNth, setNth_eq l n x]

/-- Cell c at pos + idx * sz, of n places. -/
def updC (idx : Nat) (c : Cell) (sz : Nat) : Nat → Nat → Nat → List Cell → Option (List Cell)
  | 0, _, _, l => some l
  | n + 1, i, pos, l => match nth l pos with
    | some old => match mergeC (Nat.beq idx i) c old with
      | some z => updC idx c sz n (i + 1) (pos + sz) (setNth l pos z)
      | none => none
    | none => none

section
variable {F : Frag} {r : Loc} {D : Nat → Prop}

theorem cellsRep_set : ∀ {cs : List Cell} {vs : List Value} {i : Nat} {c : Cell} {v : Value}, cellsRep F r cs vs → c.rep F r v → cellsRep F r (cs.set i c) (vs.set i v)
  | [], [], _, _, _, _, _ => by simp [cellsRep]
  | [], _ :: _, _, _, _, h, _ => h.elim
  | _ :: _, [], _, _, _, h, _ => h.elim
  | _ :: _, _ :: _, 0, _, _, h, hc => ⟨hc, h.2⟩
  | _ :: _, _ :: _, i + 1, _, _, h, hc => ⟨h.1, cellsRep_set h.2 hc⟩

theorem updC_spec {idx : Nat} {c : Cell} {sz : Nat} {v : Value} (hv : c.rep F r v) (hci : c.inn D) : ∀ {n i pos : Nat} {l l' : List Cell} {vs : List Value}, updC idx c sz n i pos l = some l' → i ≤ idx + 1 → cellsRep F r l vs → (∀ x ∈ l, x.inn D) →
    l'.length = l.length ∧ (∀ x ∈ l', x.inn D) ∧ (idx < i → cellsRep F r l' vs) ∧ (i ≤ idx → idx < i + n → pos + (idx - i) * sz < l.length ∧ cellsRep F r l' (vs.set (pos + (idx - i) * sz) v))
  | 0, i, pos, l, l', vs, h, hi, hr, hin => by
    simp only [updC, Option.some.injEq] at h; subst h
    exact ⟨rfl, hin, fun _ => hr, fun h1 h2 => by omega⟩
  | n + 1, i, pos, l, l', vs, h, hi, hr, hin => by
    simp only [updC] at h
    split at h
    · rename_i old hold
      rw [nth_eq] at hold
      split at h
      · rename_i z hz
        rw [setNth_eq] at h
        obtain ⟨m1, m2, m3⟩ := mergeC_spec (F := F) (r := r) hz
        obtain ⟨u, hu, hur⟩ := cellsRep_get hr pos old hold
        have hin' : ∀ x ∈ l.set pos z, x.inn D := fun x hx => by
          rcases List.mem_or_eq_of_mem_set hx with hx | rfl
          · exact hin x hx
          · exact m1 D
        have hpl : pos < l.length := (List.getElem?_eq_some_iff.1 hold).1
        have hself : vs.set pos u = vs := by
          apply List.ext_getElem?
          intro q
          rw [List.getElem?_set]
          split
          · rename_i e; subst e
            split
            · exact hu.symm
            · rename_i hh; exact absurd (List.getElem?_eq_some_iff.1 hu).1 hh
          · rfl
        by_cases hb : Nat.beq idx i = true
        · have e := Nat.eq_of_beq_eq_true hb
          subst e
          have hz' : cellsRep F r (l.set pos z) (vs.set pos v) := cellsRep_set hr (m2 hb v hv)
          obtain ⟨g1, g2, g3, g4⟩ := updC_spec hv hci h (by omega) hz' hin'
          refine ⟨by rw [g1]; simp, g2, fun hlt => by omega, fun _ _ => ⟨by simpa using hpl, ?_⟩⟩
          have := g3 (by omega)
          simpa using this
        · have hb' : Nat.beq idx i = false := by
            cases hq : Nat.beq idx i with
            | false => rfl
            | true => exact absurd hq hb
          have hne : idx ≠ i := fun e => by subst e; simp at hb'
          have hz' : cellsRep F r (l.set pos z) vs := by
            have := cellsRep_set (i := pos) hr (m3 hb' u hur)
            rwa [hself] at this
          by_cases hlt : idx < i
          · -- behind the place already
            have key : ∀ {n i pos : Nat} {l l' : List Cell}, idx < i → updC idx c sz n i pos l = some l' → cellsRep F r l vs → (∀ x ∈ l, x.inn D) → l'.length = l.length ∧ (∀ x ∈ l', x.inn D) ∧ cellsRep F r l' vs := by
              intro n
              induction n with
              | zero => intro i pos l l' hi h hr hin; simp only [updC, Option.some.injEq] at h; subst h; exact ⟨rfl, hin, hr⟩
              | succ n ih =>
                intro i pos l l' hi h hr hin
                simp only [updC] at h
                split at h
                · rename_i old hold
                  rw [nth_eq] at hold
                  split at h
                  · rename_i z hz
                    rw [setNth_eq] at h
                    obtain ⟨m1, m2, m3⟩ := mergeC_spec (F := F) (r := r) hz
                    obtain ⟨u, hu, hur⟩ := cellsRep_get hr pos old hold
                    have hbf : Nat.beq idx i = false := by
                      cases hb : Nat.beq idx i with
                      | false => rfl
                      | true => have := Nat.eq_of_beq_eq_true hb; omega
                    have hself : vs.set pos u = vs := by
                      apply List.ext_getElem?
                      intro q
                      rw [List.getElem?_set]
                      split
                      · rename_i e; subst e
                        split
                        · exact hu.symm
                        · rename_i hh; exact absurd (List.getElem?_eq_some_iff.1 hu).1 hh
                      · rfl
                    have hz' := cellsRep_set (i := pos) hr (m3 hbf u hur)
                    rw [hself] at hz'
                    obtain ⟨g1, g2, g3⟩ := ih (by omega) h hz' (fun x hx => by
                      rcases List.mem_or_eq_of_mem_set hx with hx | rfl
                      · exact hin x hx
                      · exact m1 D)
                    exact ⟨by rw [g1]; simp, g2, g3⟩
                  · cases h
                · cases h
            obtain ⟨g1, g2, g3⟩ := key (by omega) h hz' hin'
            exact ⟨by rw [g1]; simp, g2, fun _ => g3, fun h1 _ => by omega⟩
          · obtain ⟨g1, g2, g3, g4⟩ := updC_spec hv hci h (by omega) hz' hin'
            refine ⟨by rw [g1]; simp, g2, fun hlt' => absurd hlt' hlt, fun h1 h2 => ?_⟩
            obtain ⟨k1, k2⟩ := g4 (by omega) (by omega)
            have e : pos + sz + (idx - (i + 1)) * sz = pos + (idx - i) * sz := by
              rw [show idx - i = (idx - (i + 1)) + 1 by omega, Nat.add_mul]; omega
            rw [e] at k1 k2
            exact ⟨by simpa using k1, k2⟩
      · cases h
    · cases h

/-- Cells cs from pos + idx * sz on, of n places. -/
def updL (idx sz n : Nat) : List Cell → Nat → List Cell → Option (List Cell)
  | [], _, l => some l
  | c :: cs, pos, l => match updC idx c sz n 0 pos l with
    | some l' => updL idx sz n cs (pos + 1) l'
    | none => none

def setsV : List Value → Nat → List Value → List Value
  | vs, _, [] => vs
  | vs, p, u :: us => setsV (vs.set p u) (p + 1) us

theorem setsV_spec : ∀ (us vs : List Value) (p : Nat), p + us.length ≤ vs.length → setsV vs p us = vs.take p ++ (us ++ vs.drop (p + us.length))
  | [], vs, p, h => by simp [setsV]
  | u :: us, vs, p, h => by
    simp only [setsV]
    simp only [List.length_cons] at h
    rw [setsV_spec us _ _ (by simp; omega)]
    apply List.ext_getElem?
    intro i
    by_cases h1 : i < p
    · rw [List.getElem?_append_left (by simp; omega), List.getElem?_append_left (by simp; omega), List.getElem?_take, List.getElem?_take, if_pos (by omega), if_pos h1, List.getElem?_set, if_neg (by omega)]
    · by_cases h2 : i = p
      · subst h2
        rw [List.getElem?_append_left (by simp; omega), List.getElem?_append_right (by simp; omega), List.getElem?_take, if_pos (by omega), List.getElem?_set, if_pos rfl, if_pos (by omega)]
        simp
        rw [show i - min i vs.length = 0 by omega]; rfl
      · rw [List.getElem?_append_right (l₁ := List.take (p + 1) (vs.set p u)) (by simp; omega), List.getElem?_append_right (l₁ := List.take p vs) (by simp; omega)]
        simp only [List.length_take, List.length_set]
        rw [show min p vs.length = p by omega, show min (p + 1) vs.length = p + 1 by omega, show i - p = (i - (p + 1)) + 1 by omega, List.cons_append, List.getElem?_cons_succ]
        by_cases h3 : i - (p + 1) < us.length
        · rw [List.getElem?_append_left (by omega), List.getElem?_append_left (by omega)]
        · rw [List.getElem?_append_right (by omega), List.getElem?_append_right (by omega), List.getElem?_drop, List.getElem?_drop, List.getElem?_set, if_neg (by omega)]
          congr 1
          simp only [List.length_cons]; omega

theorem updL_spec {idx sz n : Nat} (hi : idx < n) : ∀ {cs : List Cell} {us : List Value} {pos : Nat} {l l' : List Cell} {vs : List Value}, updL idx sz n cs pos l = some l' → cellsRep F r cs us → (∀ c ∈ cs, c.inn D) → cellsRep F r l vs → (∀ x ∈ l, x.inn D) →
    l'.length = l.length ∧ (∀ x ∈ l', x.inn D) ∧ (cs ≠ [] → pos + idx * sz + cs.length ≤ l.length) ∧ cellsRep F r l' (setsV vs (pos + idx * sz) us)
  | [], [], pos, l, l', vs, h, _, _, hr, hin => by
    simp only [updL, Option.some.injEq] at h; subst h
    exact ⟨rfl, hin, fun h => absurd rfl h, hr⟩
  | [], _ :: _, _, _, _, _, _, h, _, _, _ => h.elim
  | _ :: _, [], _, _, _, _, _, h, _, _, _ => h.elim
  | c :: cs, u :: us, pos, l, l', vs, h, hc, hci, hr, hin => by
    simp only [updL] at h
    split at h
    · rename_i l1 hl1
      obtain ⟨g1, g2, _, g4⟩ := updC_spec hc.1 (hci c List.mem_cons_self) hl1 (by omega) hr hin
      obtain ⟨k1, k2⟩ := g4 (Nat.zero_le _) (by omega)
      simp only [Nat.sub_zero] at k1 k2
      obtain ⟨j1, j2, j3, j4⟩ := updL_spec hi h hc.2 (fun x hx => hci x (List.mem_cons_of_mem _ hx)) k2 g2
      refine ⟨by rw [j1, g1], j2, fun _ => ?_, ?_⟩
      · cases cs with
        | nil => simp; omega
        | cons a b =>
          have := j3 (by simp)
          rw [g1] at this
          simp only [List.length_cons] at this ⊢; omega
      · simp only [setsV]
        rw [show pos + idx * sz + 1 = pos + 1 + idx * sz by omega]; exact j4
    · cases h
end

/-- An element's cells from off on are these. -/
def setD : (ts : Tys) → ts.den → Nat → List Cell → Option ts.den
  | _, x, _, [] => some x
  | .nil, _, _, _ :: _ => none
  | .cons t ts, x, 0, c :: cs => match ofCell t c, setD ts x.2 0 cs with
    | some y, some ys => some (y, ys)
    | _, _ => none
  | .cons t ts, x, off + 1, c :: cs => match setD ts x.2 off (c :: cs) with
    | some ys => some (x.1, ys)
    | none => none

theorem setD_spec {F : Frag} {r : Loc} : ∀ {ts : Tys} {x y : ts.den} {off : Nat} {cs : List Cell} {us : List Value}, setD ts x off cs = some y → cellsRep F r cs us → off + cs.length ≤ ts.len ∨ cs = [] →
    (cs = [] ∨ off + cs.length ≤ ts.len) ∧ ∀ {G G' : Frag} {b o : Nat}, RepC G F b o ts x → (∀ i v, us[i]? = some v → G' b (o + off + i) = some v) → (∀ i, i < ts.len → i < off ∨ off + us.length ≤ i → ∀ v, G b (o + i) = some v → G' b (o + i) = some v) → RepC G' F b o ts y
  | ts, x, y, off, [], [], h, hr, _ => by
    have h' : some x = some y := by cases ts <;> cases off <;> exact h
    have : y = x := by injection h' with h'; exact h'.symm
    subst this
    exact ⟨.inl rfl, fun {G G' b o} hx _ h2 => RepC.congr (Frag.le_refl F) (fun i hi v hv => h2 i hi (by simp; omega) v hv) hx⟩
  | ts, x, y, off, [], _ :: _, h, hr, _ => hr.elim
  | ts, x, y, off, _ :: _, [], h, hr, _ => hr.elim
  | .nil, x, y, off, c :: cs, u :: us, h, hr, _ => by simp [setD] at h
  | .cons t ts, x, y, 0, c :: cs, u :: us, h, hr, hle => by
    simp only [setD] at h
    split at h
    · rename_i z zs hz hzs
      injection h with h; subst h
      have hle' : cs.length ≤ ts.len ∨ cs = [] := by
        rcases hle with hle | hle
        · exact .inl (by simp [Tys.len] at hle; omega)
        · cases hle
      obtain ⟨g1, g2⟩ := setD_spec hzs hr.2 (by simpa using hle')
      refine ⟨.inr (by simp [Tys.len]; rcases hle' with h | h; omega; subst h; simp), fun {G G' b o} hx h1 h2 => ?_⟩
      simp only [RepC] at hx ⊢
      refine ⟨⟨u, by simpa using h1 0 u rfl, ofCell_rep hz hr.1⟩, g2 hx.2 (fun i v hv => ?_) (fun i hi hor v hv => ?_)⟩
      · have := h1 (i + 1) v (by simpa using hv)
        rw [← this]; congr 1; omega
      · have := h2 (i + 1) (by simp [Tys.len]; omega) (by simp only [List.length_cons]; omega) v (by rw [← hv]; congr 1; omega)
        rw [← this]; congr 1; omega
    · cases h
  | .cons t ts, x, y, off + 1, c :: cs, u :: us, h, hr, hle => by
    simp only [setD] at h
    split at h
    · rename_i zs hzs
      injection h with h; subst h
      have hle' : off + (c :: cs).length ≤ ts.len ∨ (c :: cs) = [] := by
        rcases hle with hle | hle
        · exact .inl (by simp [Tys.len] at hle ⊢; omega)
        · cases hle
      obtain ⟨g1, g2⟩ := setD_spec hzs hr hle'
      refine ⟨.inr (by simp only [Tys.len]; rcases g1 with h | h; cases h; omega), fun {G G' b o} hx h1 h2 => ?_⟩
      simp only [RepC] at hx ⊢
      obtain ⟨⟨v, e1, e2⟩, e3⟩ := hx
      refine ⟨⟨v, by simpa using h2 0 (by simp [Tys.len]) (.inl (by omega)) v (by simpa using e1), e2⟩, g2 e3 (fun i v hv => ?_) (fun i hi hor v hv => ?_)⟩
      · have := h1 i v hv
        rw [← this]; congr 1; omega
      · have := h2 (i + 1) (by simp [Tys.len]; omega) (by omega) v (by rw [← hv]; congr 1; omega)
        rw [← this]; congr 1; omega
    · cases h
end Go.Sz
