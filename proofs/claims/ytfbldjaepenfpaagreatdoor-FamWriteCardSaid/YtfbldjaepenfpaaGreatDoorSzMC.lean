/-
  A symbolic machine for one call, with rows of any length: maps, what they hold.
  A symbolic machine for one call, with rows of any length: maps made, asked and turned.
  A symbolic machine for one call, with rows of any length: the operations of maps.
-/
import Derived.Test.YtfbldjaepenfpaaGreatDoorSzR
import Derived.MapKept
noncomputable section
namespace Go.Sz
open Go Go.RowKit Go.Sy Go.MapKept
set_option linter.unusedVariables false
set_option linter.unusedSimpArgs false
set_option linter.constructorNameAsVariable false
def isKeyT : Ty → Bool
  | .sl _ => false
  | _ => true
def kdOf : Ty → TypeDesc
  | .w k => .int k
  | .i k => .int k
  | .str => .string
  | _ => .bool
def eqK : (t : Ty) → t.den → t.den → Bool
  | .w _, x, y => x == y
  | .i _, x, y => x == y
  | .b, x, y => x == y
  | .str, x, y => x == y
  | .sl _, _, _ => false
section
variable {F : Frag}
theorem key_is {t : Ty} (ht : isKeyT t = true) {x : t.den} {v : Value} (h : RepT F t x v) : IsKey (kdOf t) v := by
  cases t <;> simp only [RepT] at h <;> first | (subst h; first | rfl | trivial) | (simp [isKeyT] at ht)
theorem eqK_iff {t : Ty} (ht : isKeyT t = true) {x y : t.den} {u v : Value} (h : RepT F t x u) (h' : RepT F t y v) : eqK t x y = true ↔ u = v := by
  cases t with
  | w k =>
    simp only [RepT] at h h'
    subst h h'
    simp only [eqK, beq_iff_eq, Value.int.injEq, true_and]
    exact ⟨fun e => by rw [e], fun e => BitVec.eq_of_toNat_eq (by exact_mod_cast e)⟩
  | i k =>
    simp only [RepT] at h h'
    subst h h'
    simp [eqK]
  | b =>
    simp only [RepT] at h h'
    subst h h'
    simp [eqK]
  | str =>
    simp only [RepT] at h h'
    subst h h'
    simp only [eqK, Value.string.injEq]
    exact bytes_beq _ _
  | sl ts => simp [isKeyT] at ht
end
/-! ### Entries -/
section
variable {kt : Ty} {β : Type}
def findM (x : kt.den) : List (kt.den × β) → Option β
  | [] => none
  | e :: m => bif eqK kt x e.1 then some e.2 else findM x m
def setM (x : kt.den) (y : β) : List (kt.den × β) → List (kt.den × β)
  | [] => [(x, y)]
  | e :: m => bif eqK kt x e.1 then (x, y) :: m else e :: setM x y m
def delM (x : kt.den) : List (kt.den × β) → List (kt.den × β)
  | [] => []
  | e :: m => bif eqK kt x e.1 then m else e :: delM x m
end
section
variable {F : Frag} {kt : Ty} {vt : Vt}
theorem entriesRep_len : ∀ {m : List (kt.den × vt.den)} {es : List MapEntry}, entriesRep F kt vt m es → es.length = m.length
  | [], [], _ => rfl
  | [], _ :: _, h => h.elim
  | _ :: _, [], h => h.elim
  | _ :: _, _ :: _, h => by simp [entriesRep_len h.2.2]
theorem entriesRep_iff : ∀ {m : List (kt.den × vt.den)} {es : List MapEntry}, entriesRep F kt vt m es ↔ es.length = m.length ∧ ∀ (i : Nat) (p : kt.den × vt.den) (e : MapEntry), m[i]? = some p → es[i]? = some e → RepT F kt p.1 e.key ∧ RepV F vt p.2 e.val
  | [], [] => ⟨fun _ => ⟨rfl, fun i p e h => by simp at h⟩, fun _ => trivial⟩
  | [], _ :: _ => ⟨fun h => h.elim, fun h => by simp at h⟩
  | _ :: _, [] => ⟨fun h => h.elim, fun h => by simp at h⟩
  | a :: m, b :: es => by
    have ih := entriesRep_iff (m := m) (es := es)
    constructor
    · rintro ⟨h1, h2, h3⟩
      obtain ⟨k1, k2⟩ := ih.1 h3
      refine ⟨by simp [k1], fun i p e hp he => ?_⟩
      cases i with
      | zero => simp at hp he; subst hp he; exact ⟨h1, h2⟩
      | succ i => exact k2 i p e (by simpa using hp) (by simpa using he)
    · rintro ⟨h1, h2⟩
      obtain ⟨k1, k2⟩ := h2 0 a b rfl rfl
      exact ⟨k1, k2, ih.2 ⟨by simpa using h1, fun i p e hp he => h2 (i + 1) p e (by simpa using hp) (by simpa using he)⟩⟩
theorem find_rep (hk : isKeyT kt = true) {x : kt.den} {k : Value} (hx : RepT F kt x k) : ∀ {m : List (kt.den × vt.den)} {es : List MapEntry} (i : Nat), entriesRep F kt vt m es →
    (findM x m = none ∧ Instr.findNow (kdOf kt) k es i = some none ∧ (∀ y, setM x y m = m ++ [(x, y)]) ∧ delM x m = m) ∨
    ∃ j p e, m[j]? = some p ∧ es[j]? = some e ∧ e.key = k ∧ findM x m = some p.2 ∧ Instr.findNow (kdOf kt) k es i = some (some (i + j, e.val)) ∧ (∀ y, setM x y m = m.set j (x, y)) ∧ delM x m = m.eraseIdx j
  | [], [], i, _ => .inl ⟨rfl, rfl, fun _ => rfl, rfl⟩
  | [], _ :: _, _, h => h.elim
  | _ :: _, [], _, h => h.elim
  | a :: m, b :: es, i, h => by
    obtain ⟨r, hr, hiff⟩ := sameNow_of_keys (key_is hk hx) (key_is hk h.1)
    have he := eqK_iff hk hx h.1
    cases r with
    | true =>
      have e1 : eqK kt x a.1 = true := he.2 (hiff.1 rfl)
      refine .inr ⟨0, a, b, rfl, rfl, (hiff.1 rfl).symm, by simp [findM, e1], by simp [Instr.findNow, hr], fun y => by simp [setM, e1], by simp [delM, e1]⟩
    | false =>
      have e1 : eqK kt x a.1 = false := by
        cases hc : eqK kt x a.1 with
        | false => rfl
        | true => have := hiff.2 (he.1 hc); cases this
      rcases find_rep hk hx (i + 1) h.2.2 with ⟨h1, h2, h3, h4⟩ | ⟨j, p, e, h1, h2, h3, h4, h5, h6, h7⟩
      · exact .inl ⟨by simp [findM, e1, h1], by simp [Instr.findNow, hr, h2], fun y => by simp [setM, e1, h3], by simp [delM, e1, h4]⟩
      · exact .inr ⟨j + 1, p, e, by simpa using h1, by simpa using h2, h3, by simp [findM, e1, h4], by simp [Instr.findNow, hr, h5]; omega, fun y => by simp [setM, e1, h6], by simp [delM, e1, h7]⟩
theorem entriesRep_set {m : List (kt.den × vt.den)} {es : List MapEntry} (h : entriesRep F kt vt m es) {j : Nat} {x : kt.den} {y : vt.den} {e' : MapEntry} (hx : RepT F kt x e'.key) (hy : RepV F vt y e'.val) : entriesRep F kt vt (m.set j (x, y)) (es.set j e') := by
  rw [entriesRep_iff] at h ⊢
  obtain ⟨h1, h2⟩ := h
  refine ⟨by simp [h1], fun i p e hp he => ?_⟩
  rw [List.getElem?_set] at hp he
  split at hp
  · rename_i hij
    rw [if_pos hij] at he
    split at hp
    · injection hp with hp; subst hp
      split at he
      · injection he with he; subst he; exact ⟨hx, hy⟩
      · cases he
    · cases hp
  · rename_i hij
    rw [if_neg hij] at he
    exact h2 i p e hp he
theorem entriesRep_push {m : List (kt.den × vt.den)} {es : List MapEntry} (h : entriesRep F kt vt m es) {x : kt.den} {y : vt.den} {e' : MapEntry} (hx : RepT F kt x e'.key) (hy : RepV F vt y e'.val) : entriesRep F kt vt (m ++ [(x, y)]) (es ++ [e']) := by
  rw [entriesRep_iff] at h ⊢
  obtain ⟨h1, h2⟩ := h
  refine ⟨by simp [h1], fun i p e hp he => ?_⟩
  by_cases hi : i < m.length
  · rw [List.getElem?_append_left hi] at hp
    rw [List.getElem?_append_left (by omega)] at he
    exact h2 i p e hp he
  · have : i = m.length := by
      have := (List.getElem?_eq_some_iff.1 hp).1
      simp at this; omega
    subst this
    rw [List.getElem?_append_right (by omega)] at hp he
    simp [h1] at hp he
    subst hp he
    exact ⟨hx, hy⟩
theorem entriesRep_erase {m : List (kt.den × vt.den)} {es : List MapEntry} (h : entriesRep F kt vt m es) (j : Nat) : entriesRep F kt vt (m.eraseIdx j) (es.eraseIdx j) := by
  rw [entriesRep_iff] at h ⊢
  obtain ⟨h1, h2⟩ := h
  refine ⟨by simp [List.length_eraseIdx, h1], fun i p e hp he => ?_⟩
  rw [List.getElem?_eraseIdx] at hp he
  split at hp
  · rename_i hij; rw [if_pos hij] at he; exact h2 i p e hp he
  · rename_i hij; rw [if_neg hij] at he; exact h2 (i + 1) p e hp he
end
/-! ### Values of entries -/
def ofPart : (vt : Vt) → Part → Option vt.den
  | .one t, .one c => ofCell t c
  | .many ts, .many cs => ofCells ts cs
  | _, _ => none
def partOf : (vt : Vt) → vt.den → Part
  | .one t, x => .one (cellOf t x)
  | .many ts, x => .many (cellsOf ts x)
section
variable {F : Frag} {r : Loc}
theorem ofCells_repL : ∀ {ts : Tys} {cs : List Cell} {x : ts.den} {vs : List Value}, ofCells ts cs = some x → cellsRep F r cs vs → RepL F ts x vs
  | .nil, [], x, [], _, _ => trivial
  | .nil, [], x, _ :: _, _, h => h.elim
  | .nil, _ :: _, _, _, h, _ => by simp [ofCells] at h
  | .cons t ts, [], _, _, h, _ => by simp [ofCells] at h
  | .cons t ts, c :: cs, x, [], _, h => h.elim
  | .cons t ts, c :: cs, x, v :: vs, h, hr => by
    simp only [ofCells] at h
    split at h
    · rename_i a b ha hb
      injection h with h; subst h
      exact ⟨ofCell_rep ha hr.1, ofCells_repL hb hr.2⟩
    · cases h
theorem ofPart_rep {vt : Vt} {x : Part} {y : vt.den} (h : ofPart vt x = some y) {u : Value} (hu : x.rep F r u) : RepV F vt y u := by
  cases vt <;> cases x <;> simp only [ofPart] at h
  · exact ofCell_rep h hu
  · cases h
  · cases h
  · obtain ⟨vs, h1, rfl⟩ := hu
    exact ⟨vs, ofCells_repL h h1, rfl⟩
theorem cellsOf_repL' : ∀ {ts : Tys} {x : ts.den} {vs : List Value}, RepL F ts x vs → cellsRep F r (cellsOf ts x) vs
  | .nil, _, [], _ => trivial
  | .nil, _, _ :: _, h => h.elim
  | .cons t ts, x, v :: vs, h => ⟨cellOf_rep h.1, cellsOf_repL' h.2⟩
  | .cons t ts, x, [], h => h.elim
theorem partOf_rep {vt : Vt} {y : vt.den} {u : Value} (h : RepV F vt y u) : (partOf vt y).rep F r u := by
  cases vt with
  | one t => exact cellOf_rep h
  | many ts =>
    obtain ⟨vs, h1, rfl⟩ := h
    exact ⟨vs, cellsOf_repL' h1, rfl⟩
theorem partOf_inn (D : Nat → Prop) (vt : Vt) (y : vt.den) : (partOf vt y).inn D := by
  cases vt with
  | one t => exact cellOf_inn D t y
  | many ts => exact cellsOf_inn D ts y
end
end Go.Sz
namespace Go.Sz
open Go Go.RowKit Go.Sy Go.MapKept
set_option linter.unusedVariables false
set_option linter.unusedSimpArgs false
set_option linter.constructorNameAsVariable false
def kdEq : Ty → TypeDesc → Bool
  | .w k, .int k' => k == k'
  | .i k, .int k' => k == k'
  | .b, .bool => true
  | .str, .string => true
  | _, _ => false
theorem kdEq_eq {t : Ty} {d : TypeDesc} (h : kdEq t d = true) : isKeyT t = true ∧ d = kdOf t := by
  unfold kdEq at h
  split at h <;> first | (cases h; done) | skip
  · rename_i k k'; exact ⟨rfl, by rw [eq_of_beq h]; rfl⟩
  · rename_i k k'; exact ⟨rfl, by rw [eq_of_beq h]; rfl⟩
  · exact ⟨rfl, rfl⟩
  · exact ⟨rfl, rfl⟩
def mapTy (P : Program) (t : TypeId) (kt : Ty) : Option TypeId := match P.underlying t with
  | some (.map k e) => match P.underlying k with
    | some d => bif kdEq kt d then some e else none
    | none => none
  | _ => none
theorem mapTy_spec {P : Program} {t : TypeId} {kt : Ty} {e : TypeId} (h : mapTy P t kt = some e) : ∃ k, P.underlying t = some (.map k e) ∧ P.underlying k = some (kdOf kt) ∧ isKeyT kt = true := by
  unfold mapTy at h
  split at h
  · rename_i k e' ht
    split at h
    · rename_i d hd
      cases hb : kdEq kt d with
      | false => rw [hb] at h; cases h
      | true =>
        rw [hb] at h
        injection h with h; subst h
        obtain ⟨h1, rfl⟩ := kdEq_eq hb
        exact ⟨k, ht, hd, h1⟩
    · cases h
  · cases h
def keyTyOf (P : Program) (k : TypeId) : Option Ty := match P.underlying k with
  | some (.int q) => some (bif q.signed then .i q else .w q)
  | some .bool => some .b
  | some .string => some .str
  | _ => none
def valTyOf (P : Program) (e : TypeId) : Option Vt := match flatT P 12 e with
  | some ts => match P.underlying e with
    | some (.struct _) => some (.many ts)
    | some (.array _ _) => some (.many ts)
    | _ => match ts with
      | .cons t .nil => some (.one t)
      | _ => none
  | none => none
def deepP (H : Hf) : Part → Option (Part × List (Nat × Ob))
  | .one c => match deepC H c with
    | some (d, ups) => some (.one d, ups)
    | none => none
  | .many l => match deepL H l with
    | some (ds, ups) => some (.many ds, ups)
    | none => none
def noKey (j : Nat) : List (Nat × Ob) → Bool
  | [] => true
  | (k, _) :: l => !Nat.beq k j && noKey j l
theorem noKey_spec {j : Nat} {H : Hf} : ∀ {ups : List (Nat × Ob)}, noKey j ups = true → updH ups H j = H j
  | [], _ => rfl
  | (k, ob) :: l, h => by
    simp only [noKey, Bool.and_eq_true, Bool.not_eq_true'] at h
    rw [updH_cons, if_neg (fun e => by subst e; simp at h)]
    exact noKey_spec h.2
def putMapT (P : Program) (H : Hf) (E : Ef) (t : TypeId) (m k v : Operand) : Tree Eff := match evalO E m, evalO E k, evalO E v with
  | some (.p (.one (.h j))), some (.p (.one c)), some (.p q) => match H j with
    | some (.mp kt vt l) => match mapTy P t kt with
      | some _ => match deepP H q with
        | some (q', ups) => match ofCell kt c, ofPart vt q' with
          | some x, some y => bif noKey j ups then .ret ⟨none, (j, .mp kt vt (setM x y l)) :: ups, 0⟩ else .fail
          | _, _ => .fail
        | none => .fail
      | none => .fail
    | _ => .fail
  | _, _, _ => .fail
def mapT (P : Program) (H : Hf) (E : Ef) (nx : Nat) (o : Oper) : Tree Eff := match o.op with
  | .makeMap t none => match P.underlying t with
    | some (.map k e) => match keyTyOf P k, valTyOf P e with
      | some kt, some vt => .ret ⟨some (AV.c (.h nx)), [(nx, .mp kt vt [])], 1⟩
      | _, _ => .fail
    | _ => .fail
  | .mapUpdate t m k v => putMapT P H E t m k v
  | .insert t m k v => putMapT P H E t m k v
  | .lookup t m k ok => match evalO E m, evalO E k with
    | some (.p (.one (.h j))), some (.p (.one c)) => match H j with
      | some (.mp kt vt l) => match mapTy P t kt with
        | some e => match pureSem P (zeroValue e) with
          | some z => match ofPart vt (ofK1 z), ofCell kt c with
            | some d, some x => bif ok then .ret ⟨some (.t [partOf vt ((findM x l).getD d), .one (.v (.bool (findM x l).isSome))]), [], 0⟩
              else .ret ⟨some (.p (partOf vt ((findM x l).getD d))), [], 0⟩
            | _, _ => .fail
          | none => .fail
        | none => .fail
      | _ => .fail
    | _, _ => .fail
  | .call c => match c.callee, c.args.toList, c.argTypes.toList with
    | .builtin .len, [m], [t] => match evalO E m with
      | some (.p (.one (.h j))) => match H j, P.underlying t with
        | some (.mp _ _ l), some (.map _ _) => .ret ⟨some (AV.c (.v (goInt l.length))), [], 0⟩
        | _, _ => .fail
      | _ => .fail
    | .builtin .delete, [m, k], [t, _] => match evalO E m, evalO E k with
      | some (.p (.one (.h j))), some (.p (.one c)) => match H j with
        | some (.mp kt vt l) => match mapTy P t kt, ofCell kt c with
          | some _, some x => .ret ⟨some (.t []), [(j, .mp kt vt (delM x l))], 0⟩
          | _, _ => .fail
        | _ => .fail
      | _, _ => .fail
    | _, _, _ => .fail
  | _ => .fail
theorem Fr.setMap {w : World} {b : Nat} {es : Array MapEntry} {clock : Nat} (hb : w.heap[b]? = some (.map es clock)) (es' : Array MapEntry) (c' : Nat) : Fr (fun b' _ => b' = b) w { w with heap := w.heap.setIfInBounds b (.map es' c') } := by
  have hne : ∀ b', b' ≠ b → (w.heap.setIfInBounds b (.map es' c'))[b']? = w.heap[b']? := (heap_set hb).2
  refine ⟨rfl, rfl, rfl, by simp, fun b' o hlt hn => ?_, fun b' o hlt => ?_, fun b' hlt hn => hne b' (fun e => hn 0 e)⟩
  · simp only [World.cell?]
    rw [hne b' hn]
  · simp only [World.frozen?]
    by_cases e : b' = b
    · subst e; rw [(heap_set hb).1, hb]
    · rw [hne b' e]
section
variable {P : Program} {w0 : World} {S : Nat → Nat → Prop} {R0 : Frag} {D : Nat → Prop} {H Hr : Hf} {F : Frag} {r : Loc} {w : World} {E : Ef}
theorem Mem.setMap (h : Mem w0 S R0 D H F r w) {j : Nat} {kt : Ty} {vt : Vt} {m m' : List (kt.den × vt.den)} (hj : H j = some (.mp kt vt m)) {es es' : Array MapEntry} {clock c' : Nat} (hb : w.heap[(r j).b]? = some (.map es clock))
    (he : entriesRep F kt vt m' es'.toList) (hp : es'.toList.Pairwise (fun x y => x.born < y.born)) (hc : ∀ e ∈ es'.toList, e.born < c') :
    Mem w0 S R0 D (updH [(j, .mp kt vt m')] H) F r { w with heap := w.heap.setIfInBounds (r j).b (.map es' c') } := by
  obtain ⟨h1, _⟩ := h.obs j _ hj
  exact h.renew hj ⟨h1, es', c', (heap_set hb).1, he, hp, hc⟩ trivial (fun b o hf => hf) (Fr.setMap hb es' c')
theorem deepP_spec (hs : ∀ j ob, Hr j = some ob → H j = some ob) (h : Mem w0 S R0 D H F r w) {q q' : Part} {ups : List (Nat × Ob)} (hd : deepP Hr q = some (q', ups)) (hc : q.inn D) :
    ∃ F', F.le F' ∧ Mem w0 S R0 D (updH ups H) F' r w ∧ ∀ u, q.rep F r u → q'.rep F' r u := by
  cases q with
  | one c =>
    simp only [deepP] at hd
    split at hd
    · rename_i d u hdc
      injection hd with hd; injection hd with h1 h2; subst h1 h2
      obtain ⟨F', g1, g2, g3, g4⟩ := deepC_spec hs h hdc hc
      exact ⟨F', g1, g2, g4⟩
    · cases hd
  | many l =>
    simp only [deepP] at hd
    split at hd
    · rename_i d u hdc
      injection hd with hd; injection hd with h1 h2; subst h1 h2
      obtain ⟨F', g1, g2, g3, _, g4⟩ := deepL_spec hs h hdc hc
      exact ⟨F', g1, g2, fun u ⟨vs, k1, k2⟩ => ⟨vs, g4 vs k1, k2⟩⟩
    · cases hd
theorem modify_list {es : Array MapEntry} {j : Nat} {e : MapEntry} (hj : es.toList[j]? = some e) (f : MapEntry → MapEntry) : (es.modify j f).toList = es.toList.set j (f e) := by
  apply List.ext_getElem?
  intro i
  have hlt : j < es.toList.length := (List.getElem?_eq_some_iff.1 hj).1
  have hlt' : j < es.size := by simpa using hlt
  rw [List.getElem?_set, Array.getElem?_toList, Array.getElem?_modify]
  split
  · rename_i e1
    subst e1
    have : es[j]? = some e := by rw [← Array.getElem?_toList]; exact hj
    rw [this]; rfl
  · rw [← Array.getElem?_toList]
theorem pairwise_set {α : Type} {R : α → α → Prop} {g : α → Nat} (hR : ∀ a b, R a b ↔ g a < g b) {l : List α} (h : l.Pairwise R) {j : Nat} {e e' : α} (hj : l[j]? = some e) (hg : g e' = g e) : (l.set j e').Pairwise R := by
  rw [List.pairwise_iff_getElem] at h ⊢
  intro a b ha hb hab
  simp only [List.length_set] at ha hb
  have key : ∀ i (hi : i < l.length) (hi' : i < (l.set j e').length), g ((l.set j e')[i]) = g l[i] := fun i hi hi' => by
    rw [List.getElem_set]
    split
    · rename_i e1; subst e1
      have : l[j]? = some l[j] := List.getElem?_eq_getElem hi
      rw [hj] at this; injection this with this; rw [← this]; exact hg
    · rfl
  rw [hR, key a ha, key b hb]
  exact (hR _ _).1 (h a b ha hb hab)
theorem pairwise_push {l : List MapEntry} (h : l.Pairwise (fun x y => x.born < y.born)) {e : MapEntry} (he : ∀ x ∈ l, x.born < e.born) : (l ++ [e]).Pairwise (fun x y => x.born < y.born) := by
  rw [List.pairwise_append]
  refine ⟨h, by simp, fun a ha b hb => ?_⟩
  simp at hb; subst hb; exact he a ha
theorem mapUpdate_run {t k e : TypeId} {kt : Ty} {vt : Vt} (ht : P.underlying t = some (.map k e)) (hk : P.underlying k = some (kdOf kt)) (hkt : isKeyT kt = true) {b : Nat} {es : Array MapEntry} {clock : Nat} (hb : w.heap[b]? = some (.map es clock))
    {m : List (kt.den × vt.den)} (he : entriesRep F kt vt m es.toList) (hp : es.toList.Pairwise (fun x y => x.born < y.born)) (hc : ∀ e ∈ es.toList, e.born < clock) {x : kt.den} {y : vt.den} {key val : Value} (hx : RepT F kt x key) (hy : RepV F vt y val) :
    ∃ es' c', (Instr.mapUpdate t (.map (some b)) key val).run P w = .ok () { w with heap := w.heap.setIfInBounds b (.map es' c') } ∧ entriesRep F kt vt (setM x y m) es'.toList ∧ es'.toList.Pairwise (fun x y => x.born < y.born) ∧ ∀ e ∈ es'.toList, e.born < c' := by
  rcases find_rep hkt hx 0 he with ⟨_, h2, h3, _⟩ | ⟨j, p, e0, h1, h2, h3, _, h5, h6, _⟩
  · refine ⟨es.push { key, val, born := clock }, clock + 1, ?_, ?_, ?_, fun e he' => ?_⟩
    · simp only [Instr.mapUpdate, Sem.run_bind, run_underlying ht, Result.andThen_ok, Go.MapKept.run_getObj_map hb, Go.MapKept.run_checkKey hk (key_is hkt hx), Go.MapKept.run_findKey hk h2, Go.MapKept.run_setObj_map _ hb]
    · rw [h3, Array.toList_push]; exact entriesRep_push he hx hy
    · rw [Array.toList_push]; exact pairwise_push hp hc
    · rw [Array.toList_push] at he'
      rcases List.mem_append.1 he' with h | h
      · exact Nat.lt_succ_of_lt (hc e h)
      · simp at h; subst h; exact Nat.lt_succ_self _
  · have h2' : es[j]? = some e0 := by rw [← Array.getElem?_toList]; exact h2
    rw [Nat.zero_add] at h5
    refine ⟨es.modify j fun e => { e with key, val }, clock, ?_, ?_, ?_, fun e he' => ?_⟩
    · simp only [Instr.mapUpdate, Sem.run_bind, run_underlying ht, Result.andThen_ok, Go.MapKept.run_getObj_map hb, Go.MapKept.run_checkKey hk (key_is hkt hx), Go.MapKept.run_findKey hk h5, h2', Option.map_some, Option.getD_some, h3, Go.MapKept.run_keyThatStays (key_is hkt hx), Go.MapKept.run_setObj_map _ hb]
    · rw [h6, modify_list h2]; exact entriesRep_set he hx hy
    · rw [modify_list h2]; exact pairwise_set (g := fun (x : MapEntry) => x.born) (e' := { e0 with key := key, val := val }) (fun _ _ => Iff.rfl) hp h2 rfl
    · rw [modify_list h2] at he'
      rcases List.mem_or_eq_of_mem_set he' with h | h
      · exact hc e h
      · rw [h]; exact hc e0 (List.mem_of_getElem? h2)
theorem lookup_run {t k e : TypeId} {kt : Ty} {vt : Vt} (ht : P.underlying t = some (.map k e)) (hk : P.underlying k = some (kdOf kt)) (hkt : isKeyT kt = true) {b : Nat} {es : Array MapEntry} {clock : Nat} (hb : w.heap[b]? = some (.map es clock))
    {m : List (kt.den × vt.den)} (he : entriesRep F kt vt m es.toList) {x : kt.den} {d : vt.den} {key z : Value} (hx : RepT F kt x key) (hz : (zeroValue e).run P w = .ok z w) (hd : RepV F vt d z) (ok : Bool) :
    ∃ v, RepV F vt ((findM x m).getD d) v ∧ (Instr.lookup t (.map (some b)) key ok).run P w = .ok (if ok then .tuple #[v, .bool (findM x m).isSome] else v) w := by
  rcases find_rep hkt hx 0 he with ⟨h1, h2, _⟩ | ⟨j, p, e0, h1, h2, h3, h4, h5, _, _⟩
  · refine ⟨z, by rw [h1]; exact hd, ?_⟩
    rw [h1]
    simp only [Instr.lookup, Sem.run_bind, run_underlying ht, Result.andThen_ok, Go.MapKept.run_getObj_map hb, Go.MapKept.run_checkKey hk (key_is hkt hx), Go.MapKept.run_findKey hk h2, Sem.run_pure, hz]
    cases ok <;> rfl
  · refine ⟨e0.val, by rw [h4]; exact ((entriesRep_iff.1 he).2 j p e0 h1 h2).2, ?_⟩
    rw [h4]
    simp only [Instr.lookup, Sem.run_bind, run_underlying ht, Result.andThen_ok, Go.MapKept.run_getObj_map hb, Go.MapKept.run_checkKey hk (key_is hkt hx), Go.MapKept.run_findKey hk h5, Sem.run_pure]
    cases ok <;> rfl
theorem delete_run {t k e : TypeId} {t2 ty : TypeId} {kt : Ty} {vt : Vt} (ht : P.underlying t = some (.map k e)) (hk : P.underlying k = some (kdOf kt)) (hkt : isKeyT kt = true) {b : Nat} {es : Array MapEntry} {clock : Nat} (hb : w.heap[b]? = some (.map es clock))
    {m : List (kt.den × vt.den)} (he : entriesRep F kt vt m es.toList) (hp : es.toList.Pairwise (fun x y => x.born < y.born)) (hc : ∀ e ∈ es.toList, e.born < clock) {x : kt.den} {key : Value} (hx : RepT F kt x key) :
    ∃ es', (Builtin.delete_ #[t, t2] ty #[.map (some b), key]).run P w = .ok (.tuple #[]) { w with heap := w.heap.setIfInBounds b (.map es' clock) } ∧ entriesRep F kt vt (delM x m) es'.toList ∧ es'.toList.Pairwise (fun x y => x.born < y.born) ∧ ∀ e ∈ es'.toList, e.born < clock := by
  rcases find_rep hkt hx 0 he with ⟨_, h2, _, h4⟩ | ⟨j, p, e0, h1, h2, h3, _, h5, _, h7⟩
  · refine ⟨es, ?_, by rw [h4]; exact he, hp, hc⟩
    simp [Builtin.delete_, Sem.run_bind, run_underlying ht, Result.andThen_ok, Go.MapKept.run_getObj_map hb, Go.MapKept.run_checkKey hk (key_is hkt hx), Go.MapKept.run_findKey hk h2, Go.MapKept.run_setObj_map _ hb]
  · rw [Nat.zero_add] at h5
    have hl : (es.eraseIdxIfInBounds j).toList = es.toList.eraseIdx j := by
      have : j < es.size := by have := (List.getElem?_eq_some_iff.1 h2).1; simpa using this
      rw [Array.eraseIdxIfInBounds, dif_pos this, Array.toList_eraseIdx]
    refine ⟨es.eraseIdxIfInBounds j, ?_, by rw [h7, hl]; exact entriesRep_erase he j, ?_, ?_⟩
    · simp [Builtin.delete_, Sem.run_bind, run_underlying ht, Result.andThen_ok, Go.MapKept.run_getObj_map hb, Go.MapKept.run_checkKey hk (key_is hkt hx), Go.MapKept.run_findKey hk h5, Go.MapKept.run_setObj_map _ hb]
    · rw [hl]; exact hp.sublist (List.eraseIdx_sublist _ _)
    · rw [hl]; exact fun e he' => hc e ((List.eraseIdx_sublist _ _).subset he')
end
end Go.Sz
namespace Go.Sz
open Go Go.RowKit Go.Sy Go.MapKept
set_option linter.unusedVariables false
set_option linter.unusedSimpArgs false
set_option linter.constructorNameAsVariable false
def isMp : Option Ob → Bool
  | some (.mp ..) => true
  | _ => false
def isMapOp (H : Hf) (E : Ef) (o : Oper) : Bool := match o.op with
  | .makeMap .. => true
  | .mapUpdate .. => true
  | .insert .. => true
  | .lookup .. => true
  | .call c => match c.callee, c.args.toList with
    | .builtin .delete, _ => true
    | .builtin .len, [m] => match evalO E m with
      | some (.p (.one (.h j))) => isMp (H j)
      | _ => false
    | _, _ => false
  | _ => false
section
variable {P : Program} {w0 : World} {S : Nat → Nat → Prop} {R0 : Frag} {D : Nat → Prop} {H Hr : Hf} {F : Frag} {r : Loc} {w : World} {E : Ef}
theorem putMap_run (hs : ∀ j ob, Hr j = some ob → H j = some ob) (hm : Mem w0 S R0 D H F r w) {nx : Nat} {t : TypeId} {m k v : Operand} {eff : Eff} (h : (putMapT P Hr E t m k v).run = some eff) {a : Act} (he : EnvR F r E a) (hi : EnvIn D E) :
    ∃ w' F', (Instr.mapUpdate t (a.eval m) (a.eval k) (a.eval v)).run P w = .ok () w' ∧ After w0 S R0 D H F r nx eff F' r w' undef := by
  unfold putMapT at h
  split at h
  · rename_i j c q hem hek hev
    split at h
    · rename_i kt vt l hj
      split at h
      · rename_i e hmt
        obtain ⟨kid, ht, hkd, hkt⟩ := mapTy_spec hmt
        split at h
        · rename_i q' ups hdp
          split at h
          · rename_i x y hx hy
            cases hnk : noKey j ups with
            | false => rw [hnk] at h; cases h
            | true =>
              rw [hnk] at h
              simp only [cond_true, Tree.run, Option.some.injEq] at h; subst h
              obtain ⟨F', f1, m1, f3⟩ := deepP_spec hs hm hdp (evalO_inn hi hev)
              have hmv := evalO_rep he hem
              have hkv := evalO_rep he hek
              have hvv := evalO_rep he hev
              simp only [AV.rep, Part.rep, Cell.rep] at hmv
              have hj1 : (updH ups H) j = some (.mp kt vt l) := by rw [noKey_spec hnk]; exact hs _ _ hj
              obtain ⟨o1, es, clock, o2, o3, o4, o5⟩ := m1.obs j _ hj1
              have hkr : RepT F' kt x (a.eval k) := (ofCell_rep hx hkv).mono f1
              have hvr : RepV F' vt y (a.eval v) := ofPart_rep hy (f3 _ hvv)
              obtain ⟨es', c', g1, g2, g3, g4⟩ := mapUpdate_run ht hkd hkt o2 o3 o4 o5 hkr hvr
              refine ⟨_, F', by rw [hmv.1, o1]; exact g1, fun _ _ => rfl, f1, ?_, fun av hav => by cases hav⟩
              have := (m1.setMap hj1 o2 g2 g3 g4).monoD (D' := More D nx 0) (fun j h => .inl h)
              rw [← updH_append] at this
              exact this
          · cases h
        · cases h
      · cases h
    · cases h
  · cases h
theorem Mem.newMap (h : Mem w0 S R0 D H F r w) {nx : Nat} (hnx : ¬ D nx) (kt : Ty) (vt : Vt) :
    Mem w0 S R0 (fun j => D j ∨ j = nx) (updH [(nx, .mp kt vt [])] H) F (locPut r nx ⟨w.heap.size, 0, .map (some w.heap.size)⟩) (w.alloc (.map #[] 0)) := by
  have hB : Below w.heap.size w (w.alloc (.map #[] 0)) := (Below.refl _ _).alloc (Nat.le_refl _) _
  refine h.fresh' hnx (js := []) (fun j hj => by cases hj) (d := ⟨w.heap.size, 0, .map (some w.heap.size)⟩) (ob := .mp kt vt []) ⟨rfl, #[], 0, (heap_alloc w _).1, trivial, by simp, fun e he => by simp at he⟩ trivial (fun b o hfo => .inr ?_) (Fr.of_below hB _)
  have : b = w.heap.size := hfo
  omega
theorem map_out (hs : ∀ j ob, Hr j = some ob → H j = some ob) (hm : Mem w0 S R0 D H F r w) {nx : Nat} {eff : Eff} (hnx : ∀ j, nx ≤ j → j < nx + eff.nn → ¬ D j) {o : Oper} (h : (mapT P Hr E nx o).run = some eff) {a : Act} (he : EnvR F r E a) (hi : EnvIn D E) : Out P w0 S R0 D H F r nx eff o a w := by
  have same : ∀ {v : Value} {av : AV}, eff = ⟨some av, [], 0⟩ → av.rep F r v → av.inn D → (execOp a.eval o).run P w = .ok (.value v) w → Out P w0 S R0 D H F r nx eff o a w := fun e1 e2 e3 e4 => by
    subst e1
    exact ⟨_, _, w, F, r, e4, .inl rfl, fun _ _ => rfl, Frag.le_refl F, hm.monoD (fun j h => .inl h), fun av hav => by injection hav with hav; subst hav; exact ⟨e2, AV.inn_mono (fun j h => .inl h) e3⟩⟩
  unfold mapT at h
  split at h
  · -- makeMap
    rename_i t ho
    split at h
    · split at h
      · rename_i kt vt _ _
        simp only [Tree.run, Option.some.injEq] at h; subst h
        have hnx0 := hnx nx (Nat.le_refl _) (Nat.lt_succ_self _)
        refine ⟨_, .map (some w.heap.size), _, F, _, ?_, .inl rfl, locPut_agree r hnx0 _, Frag.le_refl F, (hm.newMap hnx0 kt vt).monoD (fun j => More_one), fun av hav => ?_⟩
        · simp only [execOp, ho, Option.map_none, Sem.run_bind, run_makeMap, Result.andThen_ok, Sem.run_pure]
        · injection hav with hav; subst hav
          exact ⟨⟨by rw [locPut_self], rfl⟩, More_one (.inr rfl)⟩
      · cases h
    · cases h
  · -- mapUpdate
    rename_i t m k v ho
    obtain ⟨w', F', g1, g2⟩ := putMap_run (nx := nx) hs hm h he hi
    exact ⟨.skip, undef, w', F', r, by simp only [execOp, ho, Sem.run_bind, g1, Result.andThen_ok, Sem.run_pure], .inr ⟨rfl, rfl⟩, g2⟩
  · -- insert
    rename_i t m k v ho
    obtain ⟨w', F', g1, g2⟩ := putMap_run (nx := nx) hs hm h he hi
    exact ⟨.skip, undef, w', F', r, by simp only [execOp, ho, Sem.run_bind, g1, Result.andThen_ok, Sem.run_pure], .inr ⟨rfl, rfl⟩, g2⟩
  · -- lookup
    rename_i t m k ok ho
    split at h
    · rename_i j c hem hek
      split at h
      · rename_i kt vt l hj
        split at h
        · rename_i e hmt
          obtain ⟨kid, ht, hkd, hkt⟩ := mapTy_spec hmt
          split at h
          · rename_i z hz
            split at h
            · rename_i d x hd hx
              have hmv := evalO_rep he hem
              have hkv := evalO_rep he hek
              simp only [AV.rep, Part.rep, Cell.rep] at hmv
              obtain ⟨o1, es, clock, o2, o3, o4, o5⟩ := hm.obs j _ (hs _ _ hj)
              obtain ⟨v, g1, g2⟩ := lookup_run (ok := ok) ht hkd hkt o2 o3 (ofCell_rep hx hkv) (pureSem_run hz w) (ofPart_rep hd (ofK1_rep F r z))
              rw [← o1, ← hmv.1] at g2
              cases ok with
              | true =>
                simp only [cond_true, Tree.run, Option.some.injEq] at h
                refine same (v := .tuple #[v, .bool (findM x l).isSome]) h.symm ⟨[v, .bool (findM x l).isSome], ⟨partOf_rep g1, rfl, trivial⟩, rfl⟩ (fun y hy => ?_) ?_
                · simp only [List.mem_cons, List.not_mem_nil, or_false] at hy
                  rcases hy with rfl | rfl
                  · exact partOf_inn D vt _
                  · trivial
                · simp only [execOp, ho, Sem.run_bind, g2, Result.andThen_ok, Sem.run_pure, if_true]
              | false =>
                simp only [cond_false, Tree.run, Option.some.injEq] at h
                refine same (v := v) h.symm (partOf_rep g1) (partOf_inn D vt _) ?_
                simp only [execOp, ho, Sem.run_bind, g2, Result.andThen_ok, Sem.run_pure]
                rfl
            · cases h
          · cases h
        · cases h
      · cases h
    · cases h
  · -- builtins
    rename_i c ho
    split at h
    · rename_i m t hcal hargs htys
      split at h
      · rename_i j hem
        split at h
        · rename_i kt vt l kid e hj hu
          simp only [Tree.run, Option.some.injEq] at h
          have hmv := evalO_rep he hem
          simp only [AV.rep, Part.rep, Cell.rep] at hmv
          obtain ⟨o1, es, clock, o2, o3, o4, o5⟩ := hm.obs j _ (hs _ _ hj)
          have ha : c.args.map a.eval = #[a.eval m] := by
            apply Array.ext'
            rw [Array.toList_map, hargs]; rfl
          have ht : c.argTypes = #[t] := by apply Array.ext'; rw [htys]
          refine same (v := goInt l.length) h.symm rfl trivial ?_
          have hlen : es.size = l.length := by have := entriesRep_len o3; simpa using this
          have hl : (Builtin.len_ #[t] o.type #[a.eval m]).run P w = .ok (goInt l.length) w := by
            rw [hmv.1, o1]
            simp [Builtin.len_, run_underlying hu, Result.andThen, Go.MapKept.run_getObj_map o2, hlen]
          simp only [execOp, ho, resolve, hcal, Sem.run_bind, Sem.run_pure, Result.andThen_ok, invoke, ha, ht, builtin, hl]
        · cases h
      · cases h
    · rename_i m k t t2 hcal hargs htys
      split at h
      · rename_i j c1 hem hek
        split at h
        · rename_i kt vt l hj
          split at h
          · rename_i e x hmt hx
            obtain ⟨kid, ht, hkd, hkt⟩ := mapTy_spec hmt
            simp only [Tree.run, Option.some.injEq] at h; subst h
            have hmv := evalO_rep he hem
            have hkv := evalO_rep he hek
            simp only [AV.rep, Part.rep, Cell.rep] at hmv
            obtain ⟨o1, es, clock, o2, o3, o4, o5⟩ := hm.obs j _ (hs _ _ hj)
            have ha : c.args.map a.eval = #[a.eval m, a.eval k] := by
              apply Array.ext'
              rw [Array.toList_map, hargs]; rfl
            have hts : c.argTypes = #[t, t2] := by apply Array.ext'; rw [htys]
            obtain ⟨es', g1, g2, g3, g4⟩ := delete_run (t2 := t2) (ty := o.type) ht hkd hkt o2 o3 o4 o5 (ofCell_rep hx hkv)
            rw [← o1, ← hmv.1] at g1
            refine ⟨_, .tuple #[], _, F, r, ?_, .inl rfl, fun _ _ => rfl, Frag.le_refl F, (hm.setMap (hs _ _ hj) o2 g2 g3 g4).monoD (fun j h => .inl h), fun av hav => ?_⟩
            · simp only [execOp, ho, resolve, hcal, Sem.run_bind, Sem.run_pure, Result.andThen_ok, invoke, ha, hts, builtin, g1]
            · injection hav with hav; subst hav
              exact ⟨⟨[], trivial, rfl⟩, fun x hx => by cases hx⟩
          · cases h
        · cases h
      · cases h
    · cases h
  · cases h
end
end Go.Sz
