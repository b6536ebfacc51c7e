/-
  A symbolic machine for one call, with rows of any length: from a law's contract to the statement of its row.
  A symbolic machine for one call, with rows of any length: from a law's contract to the statement of its row.
-/
import Derived.Test.YtfbldjaepenfpaaGreatDoorSzAD
import Derived.OpenShut
import Derived.ProofKit
import Derived.Carry
import Derived.Handed
import Derived.LaidLaws
import Derived.LaidHandle
import Derived.Stop.Joined
noncomputable section
namespace Go.Sz
open Go Go.RowKit Go.Sy
set_option linter.unusedVariables false
set_option linter.unusedSimpArgs false
set_option linter.constructorNameAsVariable false
mutual
def Ty.ok : (t : Ty) → t.den → Prop
  | .w k, _ => True
  | .i k, n => k.min ≤ n ∧ n ≤ k.max
  | .b, _ => True
  | .str, s => s.size ≤ maxLen
  | .sl ts, l => l.length ≤ maxLen ∧ ∀ x ∈ l, Tys.ok ts x
def Tys.ok : (ts : Tys) → ts.den → Prop
  | .nil, _ => True
  | .cons t ts, x => Ty.ok t x.1 ∧ Tys.ok ts x.2
end
def ldFs (P : Program) (rec : TypeId → Option Tys) : List Field → Nat → Option Tys
  | [], _ => some .nil
  | f :: fs, off => match rec f.type with
    | some a => bif Nat.beq f.offset off && Nat.beq a.len (P.cellsOf f.type) then match ldFs P rec fs (off + a.len) with
      | some b => some (a.app b)
      | none => none
      else none
    | none => none
def ldT (P : Program) : Nat → TypeId → Option Tys
  | 0, _ => none
  | n + 1, t => match P.underlying t with
    | some .bool => some (.cons .b .nil)
    | some (.int k) => some (.cons (bif k.signed then .i k else .w k) .nil)
    | some .string => some (.cons .str .nil)
    | some (.slice e) => match ldT P n e with
      | some ts => bif Nat.beq ts.len (P.cellsOf e) && Nat.blt 0 ts.len then some (.cons (.sl ts) .nil) else none
      | none => none
    | some (.struct fs) => match ldFs P (ldT P n) fs.toList 0 with
      | some ts => bif Nat.beq ts.len (P.cellsOf t) then some ts else none
      | none => none
    | some (.array m e) => match ldT P n e with
      | some ts => bif Nat.beq ts.len (P.cellsOf e) && Nat.beq (ts.rept m).len (P.cellsOf t) then some (ts.rept m) else none
      | none => none
    | _ => none
theorem len_app : ∀ (a b : Tys), (a.app b).len = a.len + b.len
  | .nil, b => by simp [Tys.app, Tys.len]
  | .cons t a, b => by simp [Tys.app, Tys.len, len_app a b]; omega
theorem len_rept (a : Tys) : ∀ n, (a.rept n).len = n * a.len
  | 0 => by simp [Tys.rept, Tys.len]
  | n + 1 => by simp [Tys.rept, len_app, len_rept a n, Nat.add_mul]; omega
section
variable {F : Frag}
def Holds (F : Frag) (ts : Tys) (vs : List Value) : Prop := ∃ x : ts.den, RepL F ts x vs ∧ ts.ok x
theorem Holds.app : ∀ {a b : Tys} {vs us : List Value}, Holds F a vs → Holds F b us → Holds F (a.app b) (vs ++ us)
  | .nil, b, [], us, _, h => h
  | .nil, b, _ :: _, us, h, _ => h.elim fun _ h => h.1.elim
  | .cons t a, b, v :: vs, us, h, h' => by
    obtain ⟨x, h1, h2⟩ := h
    simp only [Tys.ok] at h2
    obtain ⟨y, h3, h4⟩ := Holds.app ⟨x.2, h1.2, h2.2⟩ h'
    exact ⟨(x.1, y), ⟨h1.1, h3⟩, by simp only [Tys.app, Tys.ok]; exact ⟨h2.1, h4⟩⟩
  | .cons t a, b, [], us, h, _ => h.elim fun _ h => h.1.elim
theorem take_drop_split {α : Type} (l : List α) (off n : Nat) : l.drop off = (l.drop off).take n ++ l.drop (off + n) := by
  rw [← List.drop_drop, List.take_append_drop]
theorem ldFs_spec {P : Program} {rec : TypeId → Option Tys} {cs : List Value} {g : Field → Prop} (hrec : ∀ (f : Field) (ts : Tys), g f → rec f.type = some ts → Holds F ts ((cs.drop f.offset).take (P.cellsOf f.type))) :
    ∀ (fs : List Field) (off : Nat) (ts : Tys), (∀ f ∈ fs, g f) → ldFs P rec fs off = some ts → cs.length = off + ts.len → Holds F ts (cs.drop off)
  | [], off, ts, _, h, hl => by
    injection h with h; subst h
    have : cs.drop off = [] := List.drop_eq_nil_of_le (by simp [Tys.len] at hl; omega)
    rw [this]; exact ⟨(), trivial, by simp only [Tys.ok]⟩
  | f :: fs, off, ts, hg, h, hl => by
    simp only [ldFs] at h
    split at h
    · rename_i a ha
      cases hb : (Nat.beq f.offset off && Nat.beq a.len (P.cellsOf f.type)) with
      | false => rw [hb] at h; cases h
      | true =>
        rw [hb] at h
        simp only [cond_true] at h
        simp only [Bool.and_eq_true] at hb
        have ho := Nat.eq_of_beq_eq_true hb.1
        have hn := Nat.eq_of_beq_eq_true hb.2
        split at h
        · rename_i b hb'
          injection h with h; subst h
          rw [len_app] at hl
          have h1 := hrec f a (hg f List.mem_cons_self) ha
          rw [ho, ← hn] at h1
          have h2 := ldFs_spec hrec fs (off + a.len) b (fun f hf => hg f (List.mem_cons_of_mem _ hf)) hb' (by omega)
          rw [take_drop_split cs off a.len]
          exact h1.app h2
        · cases h
    · cases h
theorem rept_spec {ts : Tys} {cs : List Value} : ∀ (m k : Nat), (∀ i, i < m → Holds F ts ((cs.drop ((k + i) * ts.len)).take ts.len)) → cs.length = (k + m) * ts.len → Holds F (ts.rept m) (cs.drop (k * ts.len))
  | 0, k, _, hl => by
    have : cs.drop (k * ts.len) = [] := List.drop_eq_nil_of_le (by rw [hl]; simp)
    rw [this]; exact ⟨(), trivial, by simp only [Tys.rept, Tys.ok]⟩
  | m + 1, k, h, hl => by
    rw [take_drop_split cs (k * ts.len) ts.len, show k * ts.len + ts.len = (k + 1) * ts.len by rw [Nat.add_mul]; omega]
    exact (by simpa using h 0 (by omega) : Holds F ts ((cs.drop (k * ts.len)).take ts.len)).app
      (rept_spec m (k + 1) (fun i hi => by have := h (i + 1) (by omega); rw [show k + 1 + i = k + (i + 1) by omega]; exact this) (by rw [hl]; congr 1; omega))
theorem RepC_of_L {G : Frag} {b : Nat} : ∀ {ts : Tys} {x : ts.den} {vs : List Value} {o : Nat}, RepL F ts x vs → (∀ i v, vs[i]? = some v → G b (o + i) = some v) → RepC G F b o ts x
  | .nil, x, [], o, _, _ => by simp only [RepC]
  | .nil, x, _ :: _, o, h, _ => h.elim
  | .cons t ts, x, [], o, h, _ => h.elim
  | .cons t ts, x, v :: vs, o, h, hg => by
    simp only [RepC]
    refine ⟨⟨v, by simpa using hg 0 v rfl, h.1⟩, RepC_of_L h.2 fun i u hu => ?_⟩
    have := hg (i + 1) u (by simpa using hu)
    rw [show o + 1 + i = o + (i + 1) by omega]; exact this
theorem cellsOf_repL {r : Loc} : ∀ {ts : Tys} {x : ts.den} {vs : List Value}, RepL F ts x vs → cellsRep F r (cellsOf ts x) vs
  | .nil, _, [], _ => trivial
  | .nil, _, _ :: _, h => h.elim
  | .cons t ts, x, v :: vs, h => ⟨cellOf_rep h.1, cellsOf_repL h.2⟩
  | .cons t ts, x, [], h => h.elim
theorem choose_list {α : Type} {p : Nat → α → Prop} : ∀ (n : Nat), (∀ i, i < n → ∃ x, p i x) → ∃ l : List α, l.length = n ∧ ∀ i x, l[i]? = some x → p i x
  | 0, _ => ⟨[], rfl, fun i x h => by simp at h⟩
  | n + 1, h => by
    obtain ⟨l, h1, h2⟩ := choose_list n (fun i hi => h i (by omega))
    obtain ⟨x, hx⟩ := h n (by omega)
    refine ⟨l ++ [x], by simp [h1], fun i y hy => ?_⟩
    by_cases hi : i < n
    · rw [List.getElem?_append_left (by omega)] at hy; exact h2 i y hy
    · have : i = n := by
        have := (List.getElem?_eq_some_iff.1 hy).1
        simp at this; omega
      subst this
      rw [List.getElem?_append_right (by omega), h1] at hy
      simp at hy; subst hy; exact hx
end
section
variable {H : Type} {enc : TypeId × Value → H} {P : Program} {w : World} {base : Nat} {spare : Nat → Bool} {held : Bool}
theorem wf_range {k : IntKind} {n : Int} (h : (Lit.int k n).wf = true) : k.min ≤ n ∧ n ≤ k.max := by
  simp only [Lit.wf, decide_eq_true_eq, Bool.and_eq_true] at h; exact h
theorem trod_data : ∀ (n fuel : Nat) (t : TypeId) (cs : List Value) (x : DataW H × List MemPlace) (ts : Tys), ldT P n t = some ts → DataW.trod enc P w base spare held fuel t cs = some x → Holds (memF w) ts cs
  | 0, _, _, _, _, _, h, _ => by cases h
  | n + 1, fuel, t, cs, x, ts, h, ht => by
    simp only [ldT] at h
    split at h
    · rename_i hu
      injection h with h; subst h
      obtain ⟨b, rfl, _⟩ := DataW.trod_bool hu ht
      exact ⟨(b, ()), ⟨by simp only [RepT], trivial⟩, by simp only [Tys.ok, Ty.ok]; trivial⟩
    · rename_i k hu
      injection h with h; subst h
      obtain ⟨m, rfl, _, hw⟩ := DataW.trod_int hu ht
      have hr := wf_range hw
      cases hs : k.signed with
      | true =>
        exact ⟨(m, ()), ⟨by simp only [cond_true, RepT], trivial⟩, by simp only [cond_true, Tys.ok, Ty.ok]; exact ⟨hr, trivial⟩⟩
      | false =>
        simp only [IntKind.min, IntKind.max, hs] at hr
        have h0 : 0 ≤ m := by simpa using hr.1
        have h1 : m < 2 ^ k.bits := by
          have := hr.2
          simp at this; omega
        refine ⟨(BitVec.ofInt k.bits m, ()), ⟨?_, trivial⟩, by simp only [cond_false, Tys.ok, Ty.ok]; trivial⟩
        simp only [cond_false, RepT]
        rw [BitVec.toNat_ofInt]
        have h2 : m % ((2 ^ k.bits : Nat) : Int) = m := Int.emod_eq_of_lt h0 (by exact_mod_cast h1)
        rw [h2, Int.toNat_of_nonneg h0]
    · rename_i hu
      injection h with h; subst h
      obtain ⟨s, rfl, _, hs⟩ := DataW.trod_string hu ht
      exact ⟨(s, ()), ⟨by simp only [RepT], trivial⟩, by simp only [Tys.ok, Ty.ok]; exact ⟨hs, trivial⟩⟩
    · rename_i e hu
      split at h
      · rename_i te hte
        cases hb : (Nat.beq te.len (P.cellsOf e) && Nat.blt 0 te.len) with
        | false => rw [hb] at h; cases h
        | true =>
          rw [hb] at h
          simp only [cond_true, Option.some.injEq] at h; subst h
          simp only [Bool.and_eq_true] at hb
          have hlen := Nat.eq_of_beq_eq_true hb.1
          have hpos : 0 < te.len := Nat.le_of_ble_eq_true hb.2
          rcases DataW.trod_slice hu ht with ⟨rfl, _⟩ | ⟨a, len, cap, elems, rest, m, _, rfl, _, hba, hl, hm, hel, hrd, _, _⟩
          · refine ⟨([], ()), ⟨?_, trivial⟩, by simp only [Tys.ok, Ty.ok]; exact ⟨⟨Nat.zero_le _, fun x hx => by cases hx⟩, trivial⟩⟩
            simp only [RepT]
            exact ⟨none, 0, rfl, Nat.le_refl _, Nat.zero_le _, fun h => absurd rfl h⟩
          · have one : ∀ i, i < len → ∃ cs' z, cs'.length = te.len ∧ (∀ j v, cs'[j]? = some v → w.cell? ((a.add (i * P.cellsOf e)).add j) = some v) ∧ DataW.trod enc P w base spare held m e cs' = some z := by
              intro i hi
              have h1 := hrd i hi
              rw [List.getElem?_eq_getElem (by omega)] at h1
              obtain ⟨cs', h2, h3⟩ := Option.bind_eq_some_iff.1 h1
              obtain ⟨_, h4, h5⟩ := World.cells?_some h2
              refine ⟨cs', _, by rw [h4, hlen], fun j v hj => ?_, h3⟩
              have : j < cs'.length := (List.getElem?_eq_some_iff.1 hj).1
              rw [h5 j (by omega)]; exact hj
            have hsp : 0 < len → a.spot = none := fun h0 => by
              obtain ⟨cs', z, h1, h2, _⟩ := one 0 h0
              have h3 := h2 0 _ (List.getElem?_eq_getElem (by omega))
              rw [Nat.zero_mul] at h3
              simp only [Addr.add, if_true] at h3
              unfold World.cell? at h3
              split at h3
              · cases hsp : a.spot with
                | none => rfl
                | some s => simp [hsp] at h3
              · cases h3
            have key : ∀ i, i < len → ∃ y : te.den, RepC (memF w) (memF w) a.block (a.off + i * te.len) te y ∧ te.ok y := by
              intro i hi
              obtain ⟨cs', z, h1, h2, h3⟩ := one i hi
              obtain ⟨y, h6, h7⟩ := trod_data n m e cs' z te hte h3
              refine ⟨y, RepC_of_L h6 fun j v hj => ?_, h7⟩
              have h8 := h2 j v hj
              have h9 := hsp (by omega)
              obtain ⟨blk, off, spot⟩ := a
              simp only at h9; subst h9
              show w.cell? ⟨blk, off + i * te.len + j, none⟩ = some v
              rw [← h8, ← hlen]
              congr 1
              simp only [Addr.add]
              by_cases e1 : i * te.len = 0 <;> by_cases e2 : j = 0 <;> simp [e1, e2]
            obtain ⟨l, h1, h2⟩ := choose_list len key
            refine ⟨(l, ()), ⟨?_, trivial⟩, ?_⟩
            · simp only [RepT]
              rw [h1]
              refine ⟨some a, cap, rfl, hl, hm, fun hne => ?_⟩
              have h9 := hsp (by rw [← h1]; exact List.length_pos_iff.2 hne)
              obtain ⟨blk, off, spot⟩ := a
              simp only at h9; subst h9
              exact ⟨blk, off, rfl, fun i x hx => (h2 i x hx).1⟩
            · simp only [Tys.ok, Ty.ok]
              refine ⟨⟨by omega, fun x hx => ?_⟩, trivial⟩
              obtain ⟨i, hi⟩ := List.mem_iff_getElem?.1 hx
              exact (h2 i x hi).2
      · cases h
    · rename_i fs hu
      split at h
      · rename_i k1 hk1
        cases hb : Nat.beq k1.len (P.cellsOf t) with
        | false => rw [hb] at h; cases h
        | true =>
          rw [hb] at h
          simp only [cond_true, Option.some.injEq] at h; subst h
          obtain ⟨xs, m, rfl, _, hl, hxl, hf⟩ := DataW.trod_struct hu ht
          have := ldFs_spec (P := P) (rec := ldT P n) (cs := cs) (F := memF w) (g := fun f => f ∈ fs.toList) (fun f k2 hfm hk2 => by
            obtain ⟨i, hi⟩ := List.mem_iff_getElem?.1 hfm
            have hi' : fs[i]? = some f := by rw [← Array.getElem?_toList]; exact hi
            have h3 := hf i f hi'
            have hlt : i < xs.length := by have := (Array.getElem?_eq_some_iff.1 hi').1; omega
            rw [List.getElem?_eq_getElem hlt] at h3
            exact trod_data n m f.type _ _ k2 hk2 h3) fs.toList 0 k1 (fun f hf => hf) hk1 (by rw [hl, Nat.zero_add]; exact (Nat.eq_of_beq_eq_true hb).symm)
          simpa using this
      · cases h
    · rename_i m e hu
      split at h
      · rename_i k1 hk1
        cases hb : (Nat.beq k1.len (P.cellsOf e) && Nat.beq (k1.rept m).len (P.cellsOf t)) with
        | false => rw [hb] at h; cases h
        | true =>
          rw [hb] at h
          simp only [cond_true, Option.some.injEq] at h; subst h
          simp only [Bool.and_eq_true] at hb
          have hlen : k1.len = P.cellsOf e := Nat.eq_of_beq_eq_true hb.1
          obtain ⟨xs, q, rfl, _, hl, hxl, hf⟩ := DataW.trod_array hu ht
          have := rept_spec (ts := k1) (cs := cs) (F := memF w) m 0 (fun i hi => by
            rw [Nat.zero_add]
            have h3 := hf i hi
            rw [List.getElem?_eq_getElem (by omega)] at h3
            have := trod_data n q e _ _ k1 hk1 h3
            rw [hlen]; exact this) (by rw [hl, ← Nat.eq_of_beq_eq_true hb.2, len_rept, Nat.zero_add])
          simpa using this
      · cases h
    · cases h
end
end Go.Sz
namespace Go.Sz
open Go Go.RowKit Go.Sy Go.ChangeShapes Go.WideShapes
set_option linter.unusedVariables false
set_option linter.unusedSimpArgs false
set_option linter.constructorNameAsVariable false
/-! ### A law's statement (as in Sy) -/
section
variable {H : Type} {enc : TypeId × Value → H} {P : Program}
theorem trodAll_below (hl : laidOutB P = true) {W W' : World} (hb : Below W.heap.size W W') : ∀ (ts : List TypeId) (vs : List Value) (ds : List (DataW H)) (ps : List MemPlace),
    (∀ t ∈ ts, P.readableRec t = true ∧ t < P.types.size) → DataW.TrodAll enc P W 0 (fun _ => true) true ts vs ds ps → (∀ x ∈ ps, x.block < W.heap.size) →
    DataW.TrodAll enc P W' 0 (fun b => decide (b < W.heap.size)) true ts vs ds ps
  | [], vs, ds, ps, _, h, _ => by
    obtain ⟨rfl, rfl, rfl⟩ := trodAll_nil h
    rfl
  | t :: ts, vs, ds, ps, ht, h, hp => by
    obtain ⟨v, vs', d, ds', p, q, rfl, rfl, rfl, h1, h2⟩ := trodAll_cons h
    exact ⟨p, q, Below.trod hl (ht t List.mem_cons_self).1 (ht t List.mem_cons_self).2 h1 hb (fun x hx => hp x (List.mem_append_left _ hx)),
      trodAll_below hl hb ts vs' ds' q (fun x hx => ht x (List.mem_cons_of_mem _ hx)) h2 (fun x hx => hp x (List.mem_append_right _ hx)), rfl⟩
theorem trodAll_len {w : World} {base : Nat} {spare : Nat → Bool} {held : Bool} : ∀ {ts : List TypeId} {vs : List Value} {ds : List (DataW H)} {ps : List MemPlace}, DataW.TrodAll enc P w base spare held ts vs ds ps → ds.length = ts.length
  | [], vs, ds, ps, h => by obtain ⟨_, rfl, _⟩ := trodAll_nil h; rfl
  | t :: ts, vs, ds, ps, h => by
    obtain ⟨v, vs', d, ds', p, q, rfl, rfl, rfl, h1, h2⟩ := trodAll_cons h
    simp [trodAll_len h2]
theorem law_post {fn : Func} {s : ChangeSpec} {tb : TypeId} (laid : laidOutB P = true) (hvars : s.vars = []) (hread : ∀ t ∈ fn.params.toList, P.readableRec t = true ∧ t < P.types.size)
    (hres : fn.resultTypes = #[tb]) (hb : P.underlying tb = some .bool) (hspec : ∀ ds : List (DataW H), ds.length = fn.params.size → s.fn H ds = { results := [.lit (.bool true)], args := ds })
    {W W' : World} {args : Array Value} {ds gs : List (DataW H)} {before : List MemPlace} (hW : DataW.Whole enc P fn.params.toList s.vars false W args.toList ds gs before) (hbel : Below W.heap.size W W') :
    s.post enc P fn false true false false W args (.bool true) W' := by
  have hlt := hW.lt
  have hW' := hW
  obtain ⟨p, q, hA, hV, rfl, hfz, hnd⟩ := hW
  rw [hvars] at hV
  obtain ⟨rfl, rfl⟩ := trodVars_none hV
  have hsp := hspec ds (by rw [trodAll_len hA]; simp)
  refine ⟨ds, [], p ++ [], [], p, [], hW', ?_, ?_, ?_, hbel.frame _, fun h => by cases h⟩
  · rw [List.append_nil, hsp, hres]
    exact trodAll_mk1 (shut_bool hb true)
  · rw [List.append_nil, hsp]
    exact trodAll_below laid hbel _ _ _ _ hread hA (fun x hx => hlt x (List.mem_append_left _ hx))
  · rw [List.append_nil, hsp, hvars]
    rfl
end
/-! ### Parameters -/
inductive PSh where
  | one (t : Ty)
  | many (ts : Tys)
@[reducible] def PSh.den : PSh → Type
  | .one t => t.den
  | .many ts => ts.den
def PSh.av : (s : PSh) → s.den → AV
  | .one t, x => .p (.one (cellOf t x))
  | .many ts, x => .p (.many (cellsOf ts x))
def PSh.ok : (s : PSh) → s.den → Prop
  | .one t, x => t.ok x
  | .many ts, x => ts.ok x
@[reducible] def denS : List PSh → Type
  | [] => Unit
  | s :: l => s.den × denS l
def avS : (l : List PSh) → denS l → List AV
  | [], _ => []
  | s :: l, x => s.av x.1 :: avS l x.2
def okS : (l : List PSh) → denS l → Prop
  | [], _ => True
  | s :: l, x => s.ok x.1 ∧ okS l x.2
def pshT (P : Program) (n : Nat) (t : TypeId) : Option PSh := match P.underlying t with
  | some .bool => some (.one .b)
  | some (.int k) => some (.one (bif k.signed then .i k else .w k))
  | some .string => some (.one .str)
  | some (.slice _) => match ldT P n t with
    | some (.cons t .nil) => some (.one t)
    | _ => none
  | some (.struct _) => (ldT P n t).map .many
  | some (.array _ _) => (ldT P n t).map .many
  | _ => none
def pshAll (P : Program) (n : Nat) : List TypeId → Option (List PSh)
  | [] => some []
  | t :: ts => match pshT P n t with
    | some x => match pshAll P n ts with
      | some xs => some (x :: xs)
      | none => none
    | none => none
section
variable {H : Type} {enc : TypeId × Value → H} {P : Program} {w : World} {base : Nat} {spare : Nat → Bool} {held : Bool} {W : World}
theorem av_inn (D : Nat → Prop) (s : PSh) (x : s.den) : (s.av x).inn D := by
  cases s with
  | one t => exact cellOf_inn D t x
  | many ts => exact cellsOf_inn D ts x
theorem avS_inn (D : Nat → Prop) : ∀ (l : List PSh) (x : denS l), ∀ a ∈ avS l x, a.inn D
  | [], _, a, ha => by cases ha
  | s :: l, x, a, ha => by
    rcases List.mem_cons.1 ha with rfl | ha
    · exact av_inn D s x.1
    · exact avS_inn D l x.2 a ha
theorem data_agg {t : TypeId} {v : Value} {d : DataW H} {p : List MemPlace} {ts : Tys} (n : Nat) (hk : ldT P n t = some ts) (hs : (match P.underlying t with | some (.struct _) => true | some (.array _ _) => true | _ => false) = true)
    {r : Reach} {b0 : Nat} (hv : Value.okWide P W r b0 t v) (h : DataW.Trod enc P w base spare held t v d p) : ∃ x : ts.den, (∀ r, ((PSh.many ts).av x).rep (memF w) r v) ∧ ts.ok x := by
  obtain ⟨fuel, hf⟩ := h
  have hv' : ∃ cs, v = .agg cs := by
    unfold Value.okWide at hv
    split at hv
    · obtain ⟨cs, rfl, _⟩ := hv; exact ⟨cs, rfl⟩
    · obtain ⟨cs, rfl, _⟩ := hv; exact ⟨cs, rfl⟩
    · rename_i hne1 hne2
      split at hs
      · rename_i e; exact absurd e (hne1 _)
      · rename_i e; exact absurd e (hne2 _ _)
      · cases hs
  obtain ⟨cs, rfl⟩ := hv'
  obtain ⟨x, h1, h2⟩ := trod_data n fuel t _ _ ts hk hf
  exact ⟨x, fun r => ⟨_, cellsOf_repL h1, by simp [Value.cells]⟩, h2⟩
theorem data_one {t : TypeId} {v : Value} {d : DataW H} {p : List MemPlace} {t1 : Ty} (n : Nat) (hk : ldT P n t = some (.cons t1 .nil)) (hs : (match P.underlying t with | some (.int _) => true | some .bool => true | some .string => true | some (.slice _) => true | _ => false) = true)
    {r : Reach} {b0 : Nat} (hv : Value.okWide P W r b0 t v) (h : DataW.Trod enc P w base spare held t v d p) : ∃ x : t1.den, (∀ r, ((PSh.one t1).av x).rep (memF w) r v) ∧ t1.ok x := by
  obtain ⟨fuel, hf⟩ := h
  obtain ⟨x, h1, h2⟩ := trod_data n fuel t _ _ _ hk hf
  have hv' : v.cells = #[v] := by
    unfold Value.okWide at hv
    split at hv
    · rename_i hu; rw [hu] at hs; cases hs
    · rename_i hu; rw [hu] at hs; cases hs
    · cases v <;> first | rfl | skip
      rename_i cs
      simp only [Cell.okWide] at hv
      exfalso
      split at hs
      · rename_i e; simp [e, Go.Cell.ok] at hv
      · rename_i e; simp [e, Go.Cell.ok] at hv
      · rename_i e; simp [e, Go.Cell.ok] at hv
      · rename_i e; simp [e, Go.Cell.ok] at hv
      · cases hs
  rw [hv'] at h1
  simp only [Tys.ok] at h2
  exact ⟨x.1, fun r => cellOf_rep h1.1, h2.1⟩
theorem data_all {n : Nat} : ∀ (ts : List TypeId) (vs : List Value) (ds : List (DataW H)) (ps : List MemPlace) (sh : List PSh), pshAll P (n + 1) ts = some sh →
    (∀ (j : Nat) t v, ts[j]? = some t → vs[j]? = some v → Value.okWide P W .any base t v) → DataW.TrodAll enc P w 0 spare held ts vs ds ps → ∃ x : denS sh, (∀ r, avsRep (memF w) r (avS sh x) vs) ∧ okS sh x
  | [], vs, ds, ps, sh, hs, _, h => by
    simp only [pshAll, Option.some.injEq] at hs; subst hs
    obtain ⟨rfl, _⟩ := trodAll_nil h
    exact ⟨(), fun _ => trivial, trivial⟩
  | t :: ts, vs, ds, ps, sh, hs, hv, h => by
    obtain ⟨v, vs', d, ds', p, q, rfl, rfl, rfl, h1, h2⟩ := trodAll_cons h
    simp only [pshAll] at hs
    split at hs
    · rename_i s hx
      split at hs
      · rename_i xs hxs
        injection hs with hs; subst hs
        obtain ⟨y, hy, hyo⟩ := data_all ts vs' ds' q xs hxs (fun j t' v' ht' hv' => hv (j + 1) t' v' (by simpa using ht') (by simpa using hv')) h2
        have hv0 := hv 0 t v rfl rfl
        have fin : ∀ x : s.den, ((∀ r, (s.av x).rep (memF w) r v) ∧ s.ok x) → ∃ x : denS (s :: xs), (∀ r, avsRep (memF w) r (avS (s :: xs) x) (v :: vs')) ∧ okS (s :: xs) x := fun x hx => ⟨(x, y), fun r => ⟨hx.1 r, hy r⟩, hx.2, hyo⟩
        unfold pshT at hx
        split at hx
        · rename_i hu
          injection hx with hx; subst hx
          obtain ⟨x, hx⟩ := data_one (n + 1) (t1 := .b) (by simp [ldT, hu]) (by simp [hu]) hv0 h1
          exact fin x hx
        · rename_i k hu
          injection hx with hx; subst hx
          obtain ⟨x, hx⟩ := data_one (n + 1) (t1 := bif k.signed then .i k else .w k) (by simp [ldT, hu]) (by simp [hu]) hv0 h1
          exact fin x hx
        · rename_i hu
          injection hx with hx; subst hx
          obtain ⟨x, hx⟩ := data_one (n + 1) (t1 := .str) (by simp [ldT, hu]) (by simp [hu]) hv0 h1
          exact fin x hx
        · rename_i hu
          split at hx
          · rename_i t1 ht1
            injection hx with hx; subst hx
            obtain ⟨x, hx⟩ := data_one (n + 1) ht1 (by simp [hu]) hv0 h1
            exact fin x hx
          · cases hx
        · rename_i hu
          cases hk : ldT P (n + 1) t with
          | none => rw [hk] at hx; cases hx
          | some ks =>
            rw [hk] at hx
            simp only [Option.map_some, Option.some.injEq] at hx; subst hx
            obtain ⟨x, hx⟩ := data_agg (n + 1) hk (by simp [hu]) hv0 h1
            exact fin x hx
        · rename_i hu
          cases hk : ldT P (n + 1) t with
          | none => rw [hk] at hx; cases hx
          | some ks =>
            rw [hk] at hx
            simp only [Option.map_some, Option.some.injEq] at hx; subst hx
            obtain ⟨x, hx⟩ := data_agg (n + 1) hk (by simp [hu]) hv0 h1
            exact fin x hx
        · cases hx
      · cases hs
    · cases hs
end
/-! ### Rows with laid variables -/
theorem law_lifted_laid {H : Type} {enc : TypeId × Value → H} {C : Checked} {os : Os} {f : FuncId} {fn : Func} {s : ChangeSpec} {tb : TypeId} {conds : List PathCond} {laid : List (String × DataW Unit)} {KO : World → Prop} (own : ownKnob C.prog.godebug = none) (laidOut : laidOutB C.prog = true) (started : os.Started)
    (noInit : C.prog.inits.idxOf? f = none) (hfn : C.prog.funcs[f]? = some fn) (hvars : s.vars = []) (hread : ∀ t ∈ fn.params.toList, C.prog.readableRec t = true ∧ t < C.prog.types.size)
    (hres : fn.resultTypes = #[tb]) (hb : C.prog.underlying tb = some .bool) (hspec : ∀ ds : List (DataW H), ds.length = fn.params.size → s.fn H ds = { results := [.lit (.bool true)], args := ds })
    (hK : ∀ W, laidMetH C.prog laid W → KO W)
    (witness : ∃ (w : World) (tape : Tape) (i : Input), w.os = os ∧ (w.forCall tape i).Shaped C.prog ∧ i.vars = [] ∧ Input.okWide C.prog (w.forCall tape i) .any w.heap.size f i ∧
      ((s.pre enc C.prog fn conds false (w.forCall tape i).memory i.args ∧ laidMetH C.prog laid (w.forCall tape i).memory) ∧ sizedMet enc C.prog fn (OpenSpec.ofChange s) false (w.forCall tape i).memory i.args) ∧ ({} : Assume).holds C.prog (lone (Frame.enter C.prog f i.args .normal) [] (w.forCall tape i)))
    (hcall : ∀ (W : World), KO W → ∀ (base : Nat) (args : Array Value) (ds : List (DataW H)) (before : List MemPlace),
      (∀ (j : Nat) t v, fn.params[j]? = some t → args[j]? = some v → Value.okWide C.prog W .any base t v) →
      DataW.TrodAll enc C.prog W 0 (fun _ => true) true fn.params.toList args.toList ds before →
      Calls C.prog f args W fun e W' => e = .returned (.bool true) ∧ Below W.heap.size W W') :
    ReturnsInHanded {} C os f .any (fun w args => (s.pre enc C.prog fn conds false w args ∧ laidMetH C.prog laid w) ∧ sizedMet enc C.prog fn (OpenSpec.ofChange s) false w args) (s.post enc C.prog fn false true false false) := by
  refine returnsInHanded_of_change_and (X := fun w _ => laidMetH C.prog laid w) (fun _ _ _ hh h => laidMetH.of_heap hh h) own started noInit hfn witness ?_
  intro W base args ds gs before hval hW _ _ hL _
  have hW' := hW
  obtain ⟨p, q, hA, _⟩ := hW
  refine (hcall W (hK W hL) base args ds p hval hA).mono ?_
  rintro e W' ⟨rfl, hbel⟩
  exact ⟨_, rfl, law_post laidOut hvars hread hres hb hspec hW' hbel⟩
end Go.Sz
