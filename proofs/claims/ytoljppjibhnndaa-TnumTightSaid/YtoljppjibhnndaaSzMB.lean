/-
  A symbolic machine for one call, with rows of any length: maps made, asked and turned.
-/
import Derived.Test.YtoljppjibhnndaaSzMA
namespace Go.Sz
open Go Go.RowKit Go.Sy Go.MapKept
set_option linter.unusedVariables false
set_option linter.unusedSimpArgs false
set_option linter.constructorNameAsVariable false

def kdEq : Ty → TypeDesc → Bool
  | .w k, .int k' => k == k'
  | .i k, .int k' => k == k'
  | .b, .bool => true
  | .str, .string => true
  | _, _ => false

theorem kdEq_eq {t : Ty} {d : TypeDesc} (h : kdEq t d = true) : isKeyT t = true ∧ d = kdOf t := by
  unfold kdEq at h
  split at h <;> first | (cases h; done) | skip
  · rename_i k k'; exact ⟨rfl, by rw [eq_of_beq h]; rfl⟩
  · rename_i k k'; exact ⟨rfl, by rw [eq_of_beq h]; rfl⟩
  · exact ⟨rfl, rfl⟩
  · exact ⟨rfl, rfl⟩

/-- A map's type: the key's kind, the element's type. -/
def mapTy (P : Program) (t : TypeId) (kt : Ty) : Option TypeId := match P.underlying t with
  | some (.map k e) => match P.underlying k with
    | some d => bif kdEq kt d then some e else none
    | none => none
  | _ => none

theorem mapTy_spec {P : Program} {t : TypeId} {kt : Ty} {e : TypeId} (h : mapTy P t kt = some e) : ∃ k, P.underlying t = some (.map k e) ∧ P.underlying k = some (kdOf kt) ∧ isKeyT kt = true := by
  unfold mapTy at h
  split at h
  · rename_i k e' ht
    split at h
    · rename_i d hd
      cases hb : kdEq kt d with
      | false => rw [hb] at h; cases h
      | true =>
        rw [hb] at h
        injection h with h; subst h
        obtain ⟨h1, rfl⟩ := kdEq_eq hb
        exact ⟨k, ht, hd, h1⟩
    · cases h
  · cases h

def keyTyOf (P : Program) (k : TypeId) : Option Ty := match P.underlying k with
  | some (.int q) => some (bif q.signed then .i q else .w q)
  | some .bool => some .b
  | some .string => some .str
  | _ => none
def valTyOf (P : Program) (e : TypeId) : Option Vt := match flatT P 12 e with
  | some ts => match P.underlying e with
    | some (.struct _) => some (.many ts)
    | some (.array _ _) => some (.many ts)
    | _ => match ts with
      | .cons t .nil => some (.one t)
      | _ => none
  | none => none

def deepP (H : Hf) : Part → Option (Part × List (Nat × Ob))
  | .one c => match deepC H c with
    | some (d, ups) => some (.one d, ups)
    | none => none
  | .many l => match deepL H l with
    | some (ds, ups) => some (.many ds, ups)
    | none => none

def noKey (j : Nat) : List (Nat × Ob) → Bool
  | [] => true
  | (k, _) :: l => !Nat.beq k j && noKey j l
theorem noKey_spec {j : Nat} {H : Hf} : ∀ {ups : List (Nat × Ob)}, noKey j ups = true → updH ups H j = H j
  | [], _ => rfl
  | (k, ob) :: l, h => by
    simp only [noKey, Bool.and_eq_true, Bool.not_eq_true'] at h
    rw [updH_cons, if_neg (fun e => by subst e; simp at h)]
    exact noKey_spec h.2

def putMapT (P : Program) (H : Hf) (E : Ef) (t : TypeId) (m k v : Operand) : Tree Eff := match evalO E m, evalO E k, evalO E v with
  | some (.p (.one (.h j))), some (.p (.one c)), some (.p q) => match H j with
    | some (.mp kt vt l) => match mapTy P t kt with
      | some _ => match deepP H q with
        | some (q', ups) => match ofCell kt c, ofPart vt q' with
          | some x, some y => bif noKey j ups then .ret ⟨none, (j, .mp kt vt (setM x y l)) :: ups, 0⟩ else .fail
          | _, _ => .fail
        | none => .fail
      | none => .fail
    | _ => .fail
  | _, _, _ => .fail

def mapT (P : Program) (H : Hf) (E : Ef) (nx : Nat) (o : Oper) : Tree Eff := match o.op with
  | .makeMap t none => match P.underlying t with
    | some (.map k e) => match keyTyOf P k, valTyOf P e with
      | some kt, some vt => .ret ⟨some (AV.c (.h nx)), [(nx, .mp kt vt [])], 1⟩
      | _, _ => .fail
    | _ => .fail
  | .mapUpdate t m k v => putMapT P H E t m k v
  | .insert t m k v => putMapT P H E t m k v
  | .lookup t m k ok => match evalO E m, evalO E k with
    | some (.p (.one (.h j))), some (.p (.one c)) => match H j with
      | some (.mp kt vt l) => match mapTy P t kt with
        | some e => match pureSem P (zeroValue e) with
          | some z => match ofPart vt (ofK1 z), ofCell kt c with
            | some d, some x => bif ok then .ret ⟨some (.t [partOf vt ((findM x l).getD d), .one (.v (.bool (findM x l).isSome))]), [], 0⟩
              else .ret ⟨some (.p (partOf vt ((findM x l).getD d))), [], 0⟩
            | _, _ => .fail
          | none => .fail
        | none => .fail
      | _ => .fail
    | _, _ => .fail
  | .call c => match c.callee, c.args.toList, c.argTypes.toList with
    | .builtin .len, [m], [t] => match evalO E m with
      | some (.p (.one (.h j))) => match H j, P.underlying t with
        | some (.mp _ _ l), some (.map _ _) => .ret ⟨some (AV.c (.v (goInt l.length))), [], 0⟩
        | _, _ => .fail
      | _ => .fail
    | .builtin .delete, [m, k], [t, _] => match evalO E m, evalO E k with
      | some (.p (.one (.h j))), some (.p (.one c)) => match H j with
        | some (.mp kt vt l) => match mapTy P t kt, ofCell kt c with
          | some _, some x => .ret ⟨some (.t []), [(j, .mp kt vt (delM x l))], 0⟩
          | _, _ => .fail
        | _ => .fail
      | _, _ => .fail
    | _, _, _ => .fail
  | _ => .fail

theorem Fr.setMap {w : World} {b : Nat} {es : Array MapEntry} {clock : Nat} (hb : w.heap[b]? = some (.map es clock)) (es' : Array MapEntry) (c' : Nat) : Fr (fun b' _ => b' = b) w { w with heap := w.heap.setIfInBounds b (.map es' c') } := by
  have hne : ∀ b', b' ≠ b → (w.heap.setIfInBounds b (.map es' c'))[b']? = w.heap[b']? := (heap_set hb).2
  refine ⟨rfl, rfl, rfl, by simp, fun b' o hlt hn => ?_, fun b' o hlt => ?_, fun b' hlt hn => hne b' (fun e => hn 0 e)⟩
  · simp only [World.cell?]
    rw [hne b' hn]
  · simp only [World.frozen?]
    by_cases e : b' = b
    · subst e; rw [(heap_set hb).1, hb]
    · rw [hne b' e]

section
variable {P : Program} {w0 : World} {S : Nat → Nat → Prop} {R0 : Frag} {D : Nat → Prop} {H Hr : Hf} {F : Frag} {r : Loc} {w : World} {E : Ef}

theorem Mem.setMap (h : Mem w0 S R0 D H F r w) {j : Nat} {kt : Ty} {vt : Vt} {m m' : List (kt.den × vt.den)} (hj : H j = some (.mp kt vt m)) {es es' : Array MapEntry} {clock c' : Nat} (hb : w.heap[(r j).b]? = some (.map es clock))
    (he : entriesRep F kt vt m' es'.toList) (hp : es'.toList.Pairwise (fun x y => x.born < y.born)) (hc : ∀ e ∈ es'.toList, e.born < c') :
    Mem w0 S R0 D (updH [(j, .mp kt vt m')] H) F r { w with heap := w.heap.setIfInBounds (r j).b (.map es' c') } := by
  obtain ⟨h1, _⟩ := h.obs j _ hj
  exact h.renew hj ⟨h1, es', c', (heap_set hb).1, he, hp, hc⟩ trivial (fun b o hf => hf) (Fr.setMap hb es' c')

theorem deepP_spec (hs : ∀ j ob, Hr j = some ob → H j = some ob) (h : Mem w0 S R0 D H F r w) {q q' : Part} {ups : List (Nat × Ob)} (hd : deepP Hr q = some (q', ups)) (hc : q.inn D) :
    ∃ F', F.le F' ∧ Mem w0 S R0 D (updH ups H) F' r w ∧ ∀ u, q.rep F r u → q'.rep F' r u := by
  cases q with
  | one c =>
    simp only [deepP] at hd
    split at hd
    · rename_i d u hdc
      injection hd with hd; injection hd with h1 h2; subst h1 h2
      obtain ⟨F', g1, g2, g3, g4⟩ := deepC_spec hs h hdc hc
      exact ⟨F', g1, g2, g4⟩
    · cases hd
  | many l =>
    simp only [deepP] at hd
    split at hd
    · rename_i d u hdc
      injection hd with hd; injection hd with h1 h2; subst h1 h2
      obtain ⟨F', g1, g2, g3, _, g4⟩ := deepL_spec hs h hdc hc
      exact ⟨F', g1, g2, fun u ⟨vs, k1, k2⟩ => ⟨vs, g4 vs k1, k2⟩⟩
    · cases hd

theorem modify_list {es : Array MapEntry} {j : Nat} {e : MapEntry} (hj : es.toList[j]? = some e) (f : MapEntry → MapEntry) : (es.modify j f).toList = es.toList.set j (f e) := by
  apply List.ext_getElem?
  intro i
  have hlt : j < es.toList.length := (List.getElem?_eq_some_iff.1 hj).1
  have hlt' : j < es.size := by simpa using hlt
  rw [List.getElem?_set, Array.getElem?_toList, Array.getElem?_modify]
  split
  · rename_i e1
    subst e1
    have : es[j]? = some e := by rw [← Array.getElem?_toList]; exact hj
    rw [this]; rfl
  · rw [← Array.getElem?_toList]

theorem pairwise_set {α : Type} {R : α → α → Prop} {g : α → Nat} (hR : ∀ a b, R a b ↔ g a < g b) {l : List α} (h : l.Pairwise R) {j : Nat} {e e' : α} (hj : l[j]? = some e) (hg : g e' = g e) : (l.set j e').Pairwise R := by
  rw [List.pairwise_iff_getElem] at h ⊢
  intro a b ha hb hab
  simp only [List.length_set] at ha hb
  have key : ∀ i (hi : i < l.length) (hi' : i < (l.set j e').length), g ((l.set j e')[i]) = g l[i] := fun i hi hi' => by
    rw [List.getElem_set]
    split
    · rename_i e1; subst e1
      have : l[j]? = some l[j] := List.getElem?_eq_getElem hi
      rw [hj] at this; injection this with this; rw [← this]; exact hg
    · rfl
  rw [hR, key a ha, key b hb]
  exact (hR _ _).1 (h a b ha hb hab)

theorem pairwise_push {l : List MapEntry} (h : l.Pairwise (fun x y => x.born < y.born)) {e : MapEntry} (he : ∀ x ∈ l, x.born < e.born) : (l ++ [e]).Pairwise (fun x y => x.born < y.born) := by
  rw [List.pairwise_append]
  refine ⟨h, by simp, fun a ha b hb => ?_⟩
  simp at hb; subst hb; exact he a ha

theorem mapUpdate_run {t k e : TypeId} {kt : Ty} {vt : Vt} (ht : P.underlying t = some (.map k e)) (hk : P.underlying k = some (kdOf kt)) (hkt : isKeyT kt = true) {b : Nat} {es : Array MapEntry} {clock : Nat} (hb : w.heap[b]? = some (.map es clock))
    {m : List (kt.den × vt.den)} (he : entriesRep F kt vt m es.toList) (hp : es.toList.Pairwise (fun x y => x.born < y.born)) (hc : ∀ e ∈ es.toList, e.born < clock) {x : kt.den} {y : vt.den} {key val : Value} (hx : RepT F kt x key) (hy : RepV F vt y val) :
    ∃ es' c', (Instr.mapUpdate t (.map (some b)) key val).run P w = .ok () { w with heap := w.heap.setIfInBounds b (.map es' c') } ∧ entriesRep F kt vt (setM x y m) es'.toList ∧ es'.toList.Pairwise (fun x y => x.born < y.born) ∧ ∀ e ∈ es'.toList, e.born < c' := by
  rcases find_rep hkt hx 0 he with ⟨_, h2, h3, _⟩ | ⟨j, p, e0, h1, h2, h3, _, h5, h6, _⟩
  · refine ⟨es.push { key, val, born := clock }, clock + 1, ?_, ?_, ?_, fun e he' => ?_⟩
    · simp only [Instr.mapUpdate, Sem.run_bind, run_underlying ht, Result.andThen_ok, Go.MapKept.run_getObj_map hb, Go.MapKept.run_checkKey hk (key_is hkt hx), Go.MapKept.run_findKey hk h2, Go.MapKept.run_setObj_map _ hb]
    · rw [h3, Array.toList_push]; exact entriesRep_push he hx hy
    · rw [Array.toList_push]; exact pairwise_push hp hc
    · rw [Array.toList_push] at he'
      rcases List.mem_append.1 he' with h | h
      · exact Nat.lt_succ_of_lt (hc e h)
      · simp at h; subst h; exact Nat.lt_succ_self _
  · have h2' : es[j]? = some e0 := by rw [← Array.getElem?_toList]; exact h2
    rw [Nat.zero_add] at h5
    refine ⟨es.modify j fun e => { e with key, val }, clock, ?_, ?_, ?_, fun e he' => ?_⟩
    · simp only [Instr.mapUpdate, Sem.run_bind, run_underlying ht, Result.andThen_ok, Go.MapKept.run_getObj_map hb, Go.MapKept.run_checkKey hk (key_is hkt hx), Go.MapKept.run_findKey hk h5, h2', Option.map_some, Option.getD_some, h3, Go.MapKept.run_keyThatStays (key_is hkt hx), Go.MapKept.run_setObj_map _ hb]
    · rw [h6, modify_list h2]; exact entriesRep_set he hx hy
    · rw [modify_list h2]; exact pairwise_set (g := fun (x : MapEntry) => x.born) (e' := { e0 with key := key, val := val }) (fun _ _ => Iff.rfl) hp h2 rfl
    · rw [modify_list h2] at he'
      rcases List.mem_or_eq_of_mem_set he' with h | h
      · exact hc e h
      · rw [h]; exact hc e0 (List.mem_of_getElem? h2)

theorem lookup_run {t k e : TypeId} {kt : Ty} {vt : Vt} (ht : P.underlying t = some (.map k e)) (hk : P.underlying k = some (kdOf kt)) (hkt : isKeyT kt = true) {b : Nat} {es : Array MapEntry} {clock : Nat} (hb : w.heap[b]? = some (.map es clock))
    {m : List (kt.den × vt.den)} (he : entriesRep F kt vt m es.toList) {x : kt.den} {d : vt.den} {key z : Value} (hx : RepT F kt x key) (hz : (zeroValue e).run P w = .ok z w) (hd : RepV F vt d z) (ok : Bool) :
    ∃ v, RepV F vt ((findM x m).getD d) v ∧ (Instr.lookup t (.map (some b)) key ok).run P w = .ok (if ok then .tuple #[v, .bool (findM x m).isSome] else v) w := by
  rcases find_rep hkt hx 0 he with ⟨h1, h2, _⟩ | ⟨j, p, e0, h1, h2, h3, h4, h5, _, _⟩
  · refine ⟨z, by rw [h1]; exact hd, ?_⟩
    rw [h1]
    simp only [Instr.lookup, Sem.run_bind, run_underlying ht, Result.andThen_ok, Go.MapKept.run_getObj_map hb, Go.MapKept.run_checkKey hk (key_is hkt hx), Go.MapKept.run_findKey hk h2, Sem.run_pure, hz]
    cases ok <;> rfl
  · refine ⟨e0.val, by rw [h4]; exact ((entriesRep_iff.1 he).2 j p e0 h1 h2).2, ?_⟩
    rw [h4]
    simp only [Instr.lookup, Sem.run_bind, run_underlying ht, Result.andThen_ok, Go.MapKept.run_getObj_map hb, Go.MapKept.run_checkKey hk (key_is hkt hx), Go.MapKept.run_findKey hk h5, Sem.run_pure]
    cases ok <;> rfl

theorem delete_run {t k e : TypeId} {t2 ty : TypeId} {kt : Ty} {vt : Vt} (ht : P.underlying t = some (.map k e)) (hk : P.underlying k = some (kdOf kt)) (hkt : isKeyT kt = true) {b : Nat} {es : Array MapEntry} {clock : Nat} (hb : w.heap[b]? = some (.map es clock))
    {m : List (kt.den × vt.den)} (he : entriesRep F kt vt m es.toList) (hp : es.toList.Pairwise (fun x y => x.born < y.born)) (hc : ∀ e ∈ es.toList, e.born < clock) {x : kt.den} {key : Value} (hx : RepT F kt x key) :
    ∃ es', (Builtin.delete_ #[t, t2] ty #[.map (some b), key]).run P w = .ok (.tuple #[]) { w with heap := w.heap.setIfInBounds b (.map es' clock) } ∧ entriesRep F kt vt (delM x m) es'.toList ∧ es'.toList.Pairwise (fun x y => x.born < y.born) ∧ ∀ e ∈ es'.toList, e.born < clock := by
  rcases find_rep hkt hx 0 he with ⟨_, h2, _, h4⟩ | ⟨j, p, e0, h1, h2, h3, _, h5, _, h7⟩
  · refine ⟨es, ?_, by rw [h4]; exact he, hp, hc⟩
    simp [Builtin.delete_, Sem.run_bind, run_underlying ht, Result.andThen_ok, Go.MapKept.run_getObj_map hb, Go.MapKept.run_checkKey hk (key_is hkt hx), Go.MapKept.run_findKey hk h2, Go.MapKept.run_setObj_map _ hb]
  · rw [Nat.zero_add] at h5
    have hl : (es.eraseIdxIfInBounds j).toList = es.toList.eraseIdx j := by
      have : j < es.size := by have := (List.getElem?_eq_some_iff.1 h2).1; simpa using this
      rw [Array.eraseIdxIfInBounds, dif_pos this, Array.toList_eraseIdx]
    refine ⟨es.eraseIdxIfInBounds j, ?_, by rw [h7, hl]; exact entriesRep_erase he j, ?_, ?_⟩
    · simp [Builtin.delete_, Sem.run_bind, run_underlying ht, Result.andThen_ok, Go.MapKept.run_getObj_map hb, Go.MapKept.run_checkKey hk (key_is hkt hx), Go.MapKept.run_findKey hk h5, Go.MapKept.run_setObj_map _ hb]
    · rw [hl]; exact hp.sublist (List.eraseIdx_sublist _ _)
    · rw [hl]; exact fun e he' => hc e ((List.eraseIdx_sublist _ _).subset he')
end
end Go.Sz
