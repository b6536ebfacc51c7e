/-
  A symbolic machine for one call, with rows of any length: maps, what they hold.
-/
import Derived.Test.YtoljppjibhnndaaSzR
import Derived.MapKept
namespace Go.Sz
open Go Go.RowKit Go.Sy Go.MapKept
set_option linter.unusedVariables false
set_option linter.unusedSimpArgs false
set_option linter.constructorNameAsVariable false

def isKeyT : Ty → Bool
  | .sl _ => false
  | _ => true
def kdOf : Ty → TypeDesc
  | .w k => .int k
  | .i k => .int k
  | .str => .string
  | _ => .bool
def eqK : (t : Ty) → t.den → t.den → Bool
  | .w _, x, y => x == y
  | .i _, x, y => x == y
  | .b, x, y => x == y
  | .str, x, y => x == y
  | .sl _, _, _ => false

section
variable {F : Frag}
theorem key_is {t : Ty} (ht : isKeyT t = true) {x : t.den} {v : Value} (h : RepT F t x v) : IsKey (kdOf t) v := by
  cases t <;> simp only [RepT] at h <;> first | (subst h; first | rfl | trivial) | (simp [isKeyT] at ht)

theorem eqK_iff {t : Ty} (ht : isKeyT t = true) {x y : t.den} {u v : Value} (h : RepT F t x u) (h' : RepT F t y v) : eqK t x y = true ↔ u = v := by
  cases t with
  | w k =>
    simp only [RepT] at h h'
    subst h h'
    simp only [eqK, beq_iff_eq, Value.int.injEq, true_and]
    exact ⟨fun e => by rw [e], fun e => BitVec.eq_of_toNat_eq (by exact_mod_cast e)⟩
  | i k =>
    simp only [RepT] at h h'
    subst h h'
    simp [eqK]
  | b =>
    simp only [RepT] at h h'
    subst h h'
    simp [eqK]
  | str =>
    simp only [RepT] at h h'
    subst h h'
    simp only [eqK, Value.string.injEq]
    exact bytes_beq _ _
  | sl ts => simp [isKeyT] at ht
end

/-! ### Entries -/
section
variable {kt : Ty} {β : Type}
def idxM (x : kt.den) : List (kt.den × β) → Nat → Option Nat
  | [], _ => none
  | e :: m, i => bif eqK kt x e.1 then some i else idxM x m (i + 1)
def findM (x : kt.den) : List (kt.den × β) → Option β
  | [] => none
  | e :: m => bif eqK kt x e.1 then some e.2 else findM x m
def setM (x : kt.den) (y : β) : List (kt.den × β) → List (kt.den × β)
  | [] => [(x, y)]
  | e :: m => bif eqK kt x e.1 then (x, y) :: m else e :: setM x y m
def delM (x : kt.den) : List (kt.den × β) → List (kt.den × β)
  | [] => []
  | e :: m => bif eqK kt x e.1 then m else e :: delM x m
end

section
variable {F : Frag} {kt : Ty} {vt : Vt}
theorem entriesRep_len : ∀ {m : List (kt.den × vt.den)} {es : List MapEntry}, entriesRep F kt vt m es → es.length = m.length
  | [], [], _ => rfl
  | [], _ :: _, h => h.elim
  | _ :: _, [], h => h.elim
  | _ :: _, _ :: _, h => by simp [entriesRep_len h.2.2]

theorem entriesRep_iff : ∀ {m : List (kt.den × vt.den)} {es : List MapEntry}, entriesRep F kt vt m es ↔ es.length = m.length ∧ ∀ (i : Nat) (p : kt.den × vt.den) (e : MapEntry), m[i]? = some p → es[i]? = some e → RepT F kt p.1 e.key ∧ RepV F vt p.2 e.val
  | [], [] => ⟨fun _ => ⟨rfl, fun i p e h => by simp at h⟩, fun _ => trivial⟩
  | [], _ :: _ => ⟨fun h => h.elim, fun h => by simp at h⟩
  | _ :: _, [] => ⟨fun h => h.elim, fun h => by simp at h⟩
  | a :: m, b :: es => by
    have ih := entriesRep_iff (m := m) (es := es)
    constructor
    · rintro ⟨h1, h2, h3⟩
      obtain ⟨k1, k2⟩ := ih.1 h3
      refine ⟨by simp [k1], fun i p e hp he => ?_⟩
      cases i with
      | zero => simp at hp he; subst hp he; exact ⟨h1, h2⟩
      | succ i => exact k2 i p e (by simpa using hp) (by simpa using he)
    · rintro ⟨h1, h2⟩
      obtain ⟨k1, k2⟩ := h2 0 a b rfl rfl
      exact ⟨k1, k2, ih.2 ⟨by simpa using h1, fun i p e hp he => h2 (i + 1) p e (by simpa using hp) (by simpa using he)⟩⟩

/-- What a search finds. -/
theorem find_rep (hk : isKeyT kt = true) {x : kt.den} {k : Value} (hx : RepT F kt x k) : ∀ {m : List (kt.den × vt.den)} {es : List MapEntry} (i : Nat), entriesRep F kt vt m es →
    (findM x m = none ∧ Instr.findNow (kdOf kt) k es i = some none ∧ (∀ y, setM x y m = m ++ [(x, y)]) ∧ delM x m = m) ∨
    ∃ j p e, m[j]? = some p ∧ es[j]? = some e ∧ e.key = k ∧ findM x m = some p.2 ∧ Instr.findNow (kdOf kt) k es i = some (some (i + j, e.val)) ∧ (∀ y, setM x y m = m.set j (x, y)) ∧ delM x m = m.eraseIdx j
  | [], [], i, _ => .inl ⟨rfl, rfl, fun _ => rfl, rfl⟩
  | [], _ :: _, _, h => h.elim
  | _ :: _, [], _, h => h.elim
  | a :: m, b :: es, i, h => by
    obtain ⟨r, hr, hiff⟩ := sameNow_of_keys (key_is hk hx) (key_is hk h.1)
    have he := eqK_iff hk hx h.1
    cases r with
    | true =>
      have e1 : eqK kt x a.1 = true := he.2 (hiff.1 rfl)
      refine .inr ⟨0, a, b, rfl, rfl, (hiff.1 rfl).symm, by simp [findM, e1], by simp [Instr.findNow, hr], fun y => by simp [setM, e1], by simp [delM, e1]⟩
    | false =>
      have e1 : eqK kt x a.1 = false := by
        cases hc : eqK kt x a.1 with
        | false => rfl
        | true => have := hiff.2 (he.1 hc); cases this
      rcases find_rep hk hx (i + 1) h.2.2 with ⟨h1, h2, h3, h4⟩ | ⟨j, p, e, h1, h2, h3, h4, h5, h6, h7⟩
      · exact .inl ⟨by simp [findM, e1, h1], by simp [Instr.findNow, hr, h2], fun y => by simp [setM, e1, h3], by simp [delM, e1, h4]⟩
      · exact .inr ⟨j + 1, p, e, by simpa using h1, by simpa using h2, h3, by simp [findM, e1, h4], by simp [Instr.findNow, hr, h5]; omega, fun y => by simp [setM, e1, h6], by simp [delM, e1, h7]⟩

theorem entriesRep_set {m : List (kt.den × vt.den)} {es : List MapEntry} (h : entriesRep F kt vt m es) {j : Nat} {x : kt.den} {y : vt.den} {e' : MapEntry} (hx : RepT F kt x e'.key) (hy : RepV F vt y e'.val) : entriesRep F kt vt (m.set j (x, y)) (es.set j e') := by
  rw [entriesRep_iff] at h ⊢
  obtain ⟨h1, h2⟩ := h
  refine ⟨by simp [h1], fun i p e hp he => ?_⟩
  rw [List.getElem?_set] at hp he
  split at hp
  · rename_i hij
    rw [if_pos hij] at he
    split at hp
    · injection hp with hp; subst hp
      split at he
      · injection he with he; subst he; exact ⟨hx, hy⟩
      · cases he
    · cases hp
  · rename_i hij
    rw [if_neg hij] at he
    exact h2 i p e hp he

theorem entriesRep_push {m : List (kt.den × vt.den)} {es : List MapEntry} (h : entriesRep F kt vt m es) {x : kt.den} {y : vt.den} {e' : MapEntry} (hx : RepT F kt x e'.key) (hy : RepV F vt y e'.val) : entriesRep F kt vt (m ++ [(x, y)]) (es ++ [e']) := by
  rw [entriesRep_iff] at h ⊢
  obtain ⟨h1, h2⟩ := h
  refine ⟨by simp [h1], fun i p e hp he => ?_⟩
  by_cases hi : i < m.length
  · rw [List.getElem?_append_left hi] at hp
    rw [List.getElem?_append_left (by omega)] at he
    exact h2 i p e hp he
  · have : i = m.length := by
      have := (List.getElem?_eq_some_iff.1 hp).1
      simp at this; omega
    subst this
    rw [List.getElem?_append_right (by omega)] at hp he
    simp [h1] at hp he
    subst hp he
    exact ⟨hx, hy⟩

theorem entriesRep_erase {m : List (kt.den × vt.den)} {es : List MapEntry} (h : entriesRep F kt vt m es) (j : Nat) : entriesRep F kt vt (m.eraseIdx j) (es.eraseIdx j) := by
  rw [entriesRep_iff] at h ⊢
  obtain ⟨h1, h2⟩ := h
  refine ⟨by simp [List.length_eraseIdx, h1], fun i p e hp he => ?_⟩
  rw [List.getElem?_eraseIdx] at hp he
  split at hp
  · rename_i hij; rw [if_pos hij] at he; exact h2 i p e hp he
  · rename_i hij; rw [if_neg hij] at he; exact h2 (i + 1) p e hp he
end

/-! ### Values of entries -/
def ofPart : (vt : Vt) → Part → Option vt.den
  | .one t, .one c => ofCell t c
  | .many ts, .many cs => ofCells ts cs
  | _, _ => none
def partOf : (vt : Vt) → vt.den → Part
  | .one t, x => .one (cellOf t x)
  | .many ts, x => .many (cellsOf ts x)

section
variable {F : Frag} {r : Loc}
theorem ofCells_repL : ∀ {ts : Tys} {cs : List Cell} {x : ts.den} {vs : List Value}, ofCells ts cs = some x → cellsRep F r cs vs → RepL F ts x vs
  | .nil, [], x, [], _, _ => trivial
  | .nil, [], x, _ :: _, _, h => h.elim
  | .nil, _ :: _, _, _, h, _ => by simp [ofCells] at h
  | .cons t ts, [], _, _, h, _ => by simp [ofCells] at h
  | .cons t ts, c :: cs, x, [], _, h => h.elim
  | .cons t ts, c :: cs, x, v :: vs, h, hr => by
    simp only [ofCells] at h
    split at h
    · rename_i a b ha hb
      injection h with h; subst h
      exact ⟨ofCell_rep ha hr.1, ofCells_repL hb hr.2⟩
    · cases h

theorem ofPart_rep {vt : Vt} {x : Part} {y : vt.den} (h : ofPart vt x = some y) {u : Value} (hu : x.rep F r u) : RepV F vt y u := by
  cases vt <;> cases x <;> simp only [ofPart] at h
  · exact ofCell_rep h hu
  · cases h
  · cases h
  · obtain ⟨vs, h1, rfl⟩ := hu
    exact ⟨vs, ofCells_repL h h1, rfl⟩

theorem cellsOf_repL' : ∀ {ts : Tys} {x : ts.den} {vs : List Value}, RepL F ts x vs → cellsRep F r (cellsOf ts x) vs
  | .nil, _, [], _ => trivial
  | .nil, _, _ :: _, h => h.elim
  | .cons t ts, x, v :: vs, h => ⟨cellOf_rep h.1, cellsOf_repL' h.2⟩
  | .cons t ts, x, [], h => h.elim

theorem partOf_rep {vt : Vt} {y : vt.den} {u : Value} (h : RepV F vt y u) : (partOf vt y).rep F r u := by
  cases vt with
  | one t => exact cellOf_rep h
  | many ts =>
    obtain ⟨vs, h1, rfl⟩ := h
    exact ⟨vs, cellsOf_repL' h1, rfl⟩

theorem partOf_inn (D : Nat → Prop) (vt : Vt) (y : vt.den) : (partOf vt y).inn D := by
  cases vt with
  | one t => exact cellOf_inn D t y
  | many ts => exact cellsOf_inn D ts y
end
end Go.Sz
