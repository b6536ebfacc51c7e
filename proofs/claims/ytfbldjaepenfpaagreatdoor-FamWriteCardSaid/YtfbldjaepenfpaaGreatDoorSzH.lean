/-
  A symbolic machine for one call, with rows of any length: what is read.
  A symbolic machine for one call, with rows of any length: indexing, slicing, lengths, and all operations that turn nothing.
  A symbolic machine for one call, with rows of any length: slicing, lengths, and all operations that turn nothing.
  A symbolic machine for one call, with rows of any length: all operations that turn nothing.
-/
import Derived.Test.YtfbldjaepenfpaaGreatDoorSzD
noncomputable section
namespace Go.Sz
open Go Go.RowKit Go.Sy
set_option linter.unusedVariables false
set_option linter.unusedSimpArgs false
set_option linter.constructorNameAsVariable false
/-! ### A cell at an index -/
def gath (l : List Cell) (sz : Nat) : Nat → Nat → Option (List Cell)
  | 0, _ => some []
  | n + 1, pos => match nth l pos, gath l sz n (pos + sz) with
    | some c, some cs => some (c :: cs)
    | _, _ => none
theorem gath_spec {l : List Cell} {sz : Nat} : ∀ {n pos : Nat} {cs : List Cell}, gath l sz n pos = some cs → cs.length = n ∧ ∀ i, i < n → l[pos + i * sz]? = cs[i]?
  | 0, pos, cs, h => by simp [gath] at h; subst h; exact ⟨rfl, fun i hi => by omega⟩
  | n + 1, pos, cs, h => by
    simp only [gath] at h
    split at h
    · rename_i c cs' hc hcs
      injection h with h; subst h
      obtain ⟨h1, h2⟩ := gath_spec hcs
      refine ⟨by simp [h1], fun i hi => ?_⟩
      cases i with
      | zero => rw [nth_eq] at hc; simpa using hc
      | succ i =>
        rw [List.getElem?_cons_succ, ← h2 i (by omega)]
        congr 1
        rw [Nat.add_mul]; omega
    · cases h
def allW (k : IntKind) : List Cell → Option (List (BitVec k.bits))
  | [] => some []
  | c :: l => match wOf k c, allW k l with
    | some x, some xs => some (x :: xs)
    | _, _ => none
def allI (k : IntKind) : List Cell → Option (List Int)
  | [] => some []
  | .v (.int k' n) :: l => if k' = k then match allI k l with
      | some xs => some (n :: xs)
      | none => none
    else none
  | _ => none
def allB : List Cell → Option (List Bool)
  | [] => some []
  | .v (.bool n) :: l => match allB l with
      | some xs => some (n :: xs)
      | none => none
  | _ => none
def allS : List Cell → Option (List ByteArray)
  | [] => some []
  | .v (.string n) :: l => match allS l with
      | some xs => some (n :: xs)
      | none => none
  | _ => none
def dOf (ts : Tys) : Cell → Option (List ts.den)
  | .d ts' l => toL ts l
  | .v (.slice none 0 0) => some []
  | _ => none
def allD (ts : Tys) : List Cell → Option (List (List ts.den))
  | [] => some []
  | c :: l => match dOf ts c, allD ts l with
    | some x, some xs => some (x :: xs)
    | _, _ => none
def selC (cs : List Cell) (idx : Nat) : Option Cell := match cs with
  | .w k x :: l => match allW k (.w k x :: l) with
    | some xs => some (.w k (xs.getD idx 0#k.bits))
    | none => none
  | .v (.int k n) :: l => match allI k (.v (.int k n) :: l) with
    | some xs => some (.v (.int k (xs.getD idx 0)))
    | none => none
  | .v (.bool n) :: l => match allB (.v (.bool n) :: l) with
    | some xs => some (.v (.bool (xs.getD idx false)))
    | none => none
  | .v (.string n) :: l => match allS (.v (.string n) :: l) with
    | some xs => some (.v (.string (xs.getD idx ByteArray.empty)))
    | none => none
  | .d ts n :: l => match allD ts (.d ts n :: l) with
    | some xs => some (.d ts (xs.getD idx []))
    | none => none
  | _ => none
section
variable {P : Program} {F : Frag} {r : Loc} {D : Nat → Prop} {w : World}
theorem toL_rep {ts ts' : Tys} {l : List ts.den} {l' : List ts'.den} (h : toL ts' l = some l') {u : Value} (hu : RepT F (.sl ts) l u) : RepT F (.sl ts') l' u := by
  unfold toL at h
  split at h
  · rename_i e
    have := Tys.eqb_eq e
    subst this
    injection h with h; subst h; exact hu
  · cases h
theorem repT_nil (ts : Tys) : RepT F (.sl ts) [] (.slice none 0 0) := by
  simp only [RepT]
  exact ⟨none, 0, rfl, Nat.le_refl _, Nat.zero_le _, fun h => absurd rfl h⟩
theorem dOf_rep {ts : Tys} {c : Cell} {l : List ts.den} (h : dOf ts c = some l) {u : Value} (hu : c.rep F r u) : RepT F (.sl ts) l u := by
  unfold dOf at h
  split at h
  · exact toL_rep h hu
  · injection h with h; subst h
    rw [show u = .slice none 0 0 from hu]
    exact repT_nil ts
  · cases h
theorem allW_rep {k : IntKind} : ∀ {cs : List Cell} {xs : List (BitVec k.bits)}, allW k cs = some xs → xs.length = cs.length ∧ ∀ (i : Nat) (c : Cell) (u : Value), cs[i]? = some c → c.rep F r u → u = .int k ((xs.getD i 0#k.bits).toNat : Int)
  | [], xs, h => by simp [allW] at h; subst h; exact ⟨rfl, fun i c u h => by simp at h⟩
  | c :: l, xs, h => by
    simp only [allW] at h
    split at h
    · rename_i x xs' hx hxs
      injection h with h; subst h
      obtain ⟨h1, h2⟩ := allW_rep hxs
      refine ⟨by simp [h1], fun i c' u hc hu => ?_⟩
      cases i with
      | zero => simp at hc; subst hc; simpa using wOf_rep hx hu
      | succ i => simpa using h2 i c' u (by simpa using hc) hu
    · cases h
theorem allI_rep {k : IntKind} : ∀ {cs : List Cell} {xs : List Int}, allI k cs = some xs → xs.length = cs.length ∧ ∀ (i : Nat) (c : Cell) (u : Value), cs[i]? = some c → c.rep F r u → u = .int k (xs.getD i 0)
  | [], xs, h => by simp [allI] at h; subst h; exact ⟨rfl, fun i c u h => by simp at h⟩
  | c :: l, xs, h => by
    unfold allI at h
    split at h
    · rename_i hh; cases hh
    · rename_i k' n l' hh
      injection hh with hh1 hh2; subst hh1 hh2
      split at h
      · rename_i hk; subst hk
        split at h
        · rename_i xs' hxs
          injection h with h; subst h
          obtain ⟨h1, h2⟩ := allI_rep hxs
          refine ⟨by simp [h1], fun i c' u hc hu => ?_⟩
          cases i with
          | zero => simp at hc; subst hc; simpa [Cell.rep] using hu
          | succ i => simpa using h2 i c' u (by simpa using hc) hu
        · cases h
      · cases h
    · cases h
theorem allB_rep : ∀ {cs : List Cell} {xs : List Bool}, allB cs = some xs → xs.length = cs.length ∧ ∀ (i : Nat) (c : Cell) (u : Value), cs[i]? = some c → c.rep F r u → u = .bool (xs.getD i false)
  | [], xs, h => by simp [allB] at h; subst h; exact ⟨rfl, fun i c u h => by simp at h⟩
  | c :: l, xs, h => by
    unfold allB at h
    split at h
    · rename_i hh; cases hh
    · rename_i n l' hh
      injection hh with hh1 hh2; subst hh1 hh2
      split at h
      · rename_i xs' hxs
        injection h with h; subst h
        obtain ⟨h1, h2⟩ := allB_rep hxs
        refine ⟨by simp [h1], fun i c' u hc hu => ?_⟩
        cases i with
        | zero => simp at hc; subst hc; simpa [Cell.rep] using hu
        | succ i => simpa using h2 i c' u (by simpa using hc) hu
      · cases h
    · cases h
theorem allS_rep : ∀ {cs : List Cell} {xs : List ByteArray}, allS cs = some xs → xs.length = cs.length ∧ ∀ (i : Nat) (c : Cell) (u : Value), cs[i]? = some c → c.rep F r u → u = .string (xs.getD i ByteArray.empty)
  | [], xs, h => by simp [allS] at h; subst h; exact ⟨rfl, fun i c u h => by simp at h⟩
  | c :: l, xs, h => by
    unfold allS at h
    split at h
    · rename_i hh; cases hh
    · rename_i n l' hh
      injection hh with hh1 hh2; subst hh1 hh2
      split at h
      · rename_i xs' hxs
        injection h with h; subst h
        obtain ⟨h1, h2⟩ := allS_rep hxs
        refine ⟨by simp [h1], fun i c' u hc hu => ?_⟩
        cases i with
        | zero => simp at hc; subst hc; simpa [Cell.rep] using hu
        | succ i => simpa using h2 i c' u (by simpa using hc) hu
      · cases h
    · cases h
theorem allD_rep {ts : Tys} : ∀ {cs : List Cell} {xs : List (List ts.den)}, allD ts cs = some xs → xs.length = cs.length ∧ ∀ (i : Nat) (c : Cell) (u : Value), cs[i]? = some c → c.rep F r u → RepT F (.sl ts) (xs.getD i []) u
  | [], xs, h => by simp [allD] at h; subst h; exact ⟨rfl, fun i c u h => by simp at h⟩
  | c :: l, xs, h => by
    simp only [allD] at h
    split at h
    · rename_i x xs' hx hxs
      injection h with h; subst h
      obtain ⟨h1, h2⟩ := allD_rep hxs
      refine ⟨by simp [h1], fun i c' u hc hu => ?_⟩
      cases i with
      | zero => simp at hc; subst hc; simpa using dOf_rep hx hu
      | succ i => simpa using h2 i c' u (by simpa using hc) hu
    · cases h
theorem selC_rep {cs : List Cell} {idx : Nat} {c : Cell} (h : selC cs idx = some c) {c' : Cell} (hc : cs[idx]? = some c') {u : Value} (hu : c'.rep F r u) : c.rep F r u ∧ c.inn D := by
  unfold selC at h
  split at h
  · split at h
    · rename_i xs hxs
      injection h with h; subst h
      exact ⟨(allW_rep hxs).2 idx c' u hc hu, trivial⟩
    · cases h
  · split at h
    · rename_i xs hxs
      injection h with h; subst h
      exact ⟨(allI_rep hxs).2 idx c' u hc hu, trivial⟩
    · cases h
  · split at h
    · rename_i xs hxs
      injection h with h; subst h
      exact ⟨(allB_rep hxs).2 idx c' u hc hu, trivial⟩
    · cases h
  · split at h
    · rename_i xs hxs
      injection h with h; subst h
      exact ⟨(allS_rep hxs).2 idx c' u hc hu, trivial⟩
    · cases h
  · split at h
    · rename_i xs hxs
      injection h with h; subst h
      exact ⟨(allD_rep hxs).2 idx c' u hc hu, trivial⟩
    · cases h
  · cases h
end
def selT : List Cell → Nat → Nat → Tree Cell
  | [], _, _ => .fail
  | c :: cs, idx, k => .ite (Nat.beq idx k) (.ret c) (selT cs idx (k + 1))
theorem selT_run : ∀ {cs : List Cell} {idx k : Nat} {c : Cell}, (selT cs idx k).run = some c → ∃ m, idx = k + m ∧ cs[m]? = some c
  | [], _, _, _, h => by cases h
  | c' :: cs, idx, k, c, h => by
    simp only [selT, Tree.run] at h
    cases hb : Nat.beq idx k with
    | true =>
      rw [hb] at h
      simp only [cond_true, Option.some.injEq] at h; subst h
      exact ⟨0, by rw [Nat.eq_of_beq_eq_true hb]; rfl, rfl⟩
    | false =>
      rw [hb] at h
      simp only [cond_false] at h
      obtain ⟨m, h1, h2⟩ := selT_run h
      exact ⟨m + 1, by omega, by simpa using h2⟩
def selL (l : List Cell) (sz n idx : Nat) : Nat → Nat → Option (List Cell)
  | 0, _ => some []
  | m + 1, pos => match gath l sz n pos with
    | some cs => match selC cs idx, selL l sz n idx m (pos + 1) with
      | some c, some r => some (c :: r)
      | _, _ => none
    | none => none
theorem selL_spec {F : Frag} {r : Loc} {D : Nat → Prop} {l : List Cell} {vs : List Value} (hl : cellsRep F r l vs) {sz n idx : Nat} (hi : idx < n) : ∀ {m pos : Nat} {cs : List Cell}, selL l sz n idx m pos = some cs →
    cs.length = m ∧ (∀ c ∈ cs, c.inn D) ∧ ∃ us, cellsRep F r cs us ∧ ∀ k u, us[k]? = some u → vs[pos + idx * sz + k]? = some u
  | 0, pos, cs, h => by simp [selL] at h; subst h; exact ⟨rfl, fun c hc => (by cases hc), [], trivial, fun k u h => by simp at h⟩
  | m + 1, pos, cs, h => by
    simp only [selL] at h
    split at h
    · rename_i g hg
      split at h
      · rename_i c rs hc hr
        injection h with h; subst h
        obtain ⟨h1, h2, us, h3, h4⟩ := selL_spec (D := D) hl hi hr
        obtain ⟨g1, g2⟩ := gath_spec hg
        have hgi : g[idx]? = some (g[idx]'(by omega)) := List.getElem?_eq_getElem _
        have hli := (g2 idx hi).trans hgi
        obtain ⟨v, hv, hvr⟩ := cellsRep_get hl _ _ hli
        obtain ⟨k1, k2⟩ := selC_rep (D := D) hc hgi hvr
        refine ⟨by simp [h1], fun x hx => ?_, v :: us, ⟨k1, h3⟩, fun k u hu => ?_⟩
        · rcases List.mem_cons.1 hx with rfl | hx
          · exact k2
          · exact h2 x hx
        · cases k with
          | zero => simp at hu; subst hu; simpa using hv
          | succ k =>
            have := h4 k u (by simpa using hu)
            rw [← this]; congr 1; omega
      · cases h
    · cases h
/-! ### Loads -/
section
variable {P : Program} {F : Frag} {r : Loc} {D : Nat → Prop} {w : World}
theorem loadVar_many {t : TypeId} {b o n : Nat} (hagg : pureSem P (isAgg t) = some true) (hn : pureSem P (sizeOf t) = some n) {us : List Value} (hl : us.length = n) (h : w.rangeAt b o us) :
    (loadVar t ⟨b, o, none⟩).run P w = .ok (.agg us.toArray) w := by
  unfold loadVar
  rw [Sem.run_bind, pureSem_run hagg]
  simp only [Result.andThen_ok, if_true, Sem.run_bind, pureSem_run hn]
  have := run_loadCells_list (P := P) w ⟨b, o, none⟩ us (fun i v hv => by rw [Addr.add_mid]; exact h i v hv)
  rw [hl] at this
  simp [this]
theorem loadVar_one {t : TypeId} {b o : Nat} (hagg : pureSem P (isAgg t) = some false) {u : Value} (h : w.cell? ⟨b, o, none⟩ = some u) : (loadVar t ⟨b, o, none⟩).run P w = .ok u w := by
  unfold loadVar
  rw [Sem.run_bind, pureSem_run hagg]
  simp [h]
theorem loadVar_part {t : TypeId} {b o : Nat} {l : List Cell} {vs : List Value} (hl : cellsRep F r l vs) (h : w.rangeAt b o vs) {off : Nat} {x : Part} (hx : partA P t l off = some x) :
    ∃ v, (loadVar t ⟨b, o + off, none⟩).run P w = .ok v w ∧ x.rep F r v := by
  unfold partA at hx
  split at hx
  · rename_i hagg
    split at hx
    · rename_i n hn
      split at hx
      · rename_i cs hcs
        injection hx with hx; subst hx
        obtain ⟨h1, h2⟩ := takeX_spec _ _ _ hcs
        have hr : cellsRep F r cs ((vs.drop off).take n) := by rw [h1]; exact cellsRep_take n (cellsRep_drop off hl)
        refine ⟨.agg ((vs.drop off).take n).toArray, loadVar_many hagg hn (by rw [cellsRep_length hr, h2]) (fun i v hv => ?_), _, hr, rfl⟩
        rw [List.getElem?_take] at hv
        split at hv
        · rw [List.getElem?_drop] at hv
          rw [Nat.add_assoc]; exact h _ _ hv
        · cases hv
      · cases hx
    · cases hx
  · rename_i hagg
    split at hx
    · rename_i c hc
      injection hx with hx; subst hx
      rw [nth_eq] at hc
      obtain ⟨v, hv, hr⟩ := cellsRep_get hl off c hc
      exact ⟨v, loadVar_one hagg (h off v hv), hr⟩
    · cases hx
  · cases hx
end
def loadT (P : Program) (H : Hf) (t : TypeId) : Cell → Tree Part
  | .p j off => match H j with
    | some (.lit l) => Tree.ofOpt (partA P t l off)
    | _ => .fail
  | .e j base n sz idx off => match H j with
    | some (.lit l) => match pureSem P (isAgg t) with
      | some false => match gath l sz n (base + off) with
        | some cs => match selC cs idx with
          | some c => .ret (.one c)
          | none => (selT cs idx 0).bind fun c => .ret (.one c)
        | none => .fail
      | some true => match pureSem P (sizeOf t) with
        | some m => match selL l sz n idx m (base + off) with
          | some cs => .ret (.many cs)
          | none => .fail
        | none => .fail
      | none => .fail
    | _ => .fail
  | .er j sz idx off => match H j with
    | some (.row ts l) => bif Nat.beq sz ts.len then Tree.ofOpt (partA P t (cellsOf ts (l.getD idx ts.dflt)) off) else .fail
    | _ => .fail
  | .q ts x => Tree.ofOpt (partA P t (cellsOf ts x) 0)
  | _ => .fail
structure Sees (F : Frag) (r : Loc) (D : Nat → Prop) (H : Hf) (w : World) : Prop where
  obs : ∀ j ob, H j = some ob → ObIs F r (r j) w ob
  scp : ∀ j ob, H j = some ob → ob.inn D
  fin : F.le (memF w)
theorem Mem.sees {w0 : World} {S : Nat → Nat → Prop} {R0 : Frag} {D : Nat → Prop} {H : Hf} {F : Frag} {r : Loc} {w : World} (h : Mem w0 S R0 D H F r w) : Sees F r D H w := ⟨h.obs, h.scp, h.fin⟩
theorem Sees.sub {F : Frag} {r : Loc} {D : Nat → Prop} {H H' : Hf} {w : World} (h : Sees F r D H w) (hs : ∀ j ob, H' j = some ob → H j = some ob) : Sees F r D H' w := ⟨fun j ob e => h.obs j ob (hs j ob e), fun j ob e => h.scp j ob (hs j ob e), h.fin⟩
section
variable {P : Program} {F : Frag} {r : Loc} {D : Nat → Prop} {w : World} {H : Hf}
theorem getD_get {α : Type} {l : List α} {i : Nat} (h : i < l.length) (d : α) : l[i]? = some (l.getD i d) := by
  rw [List.getElem?_eq_getElem h, List.getD_eq_getElem?_getD, List.getElem?_eq_getElem h]; rfl
theorem elem_vals {G : Frag} (hG : G.le (memF w)) {b o : Nat} {ts : Tys} {x : ts.den} (h : RepC G F b o ts x) :
    ∃ vs : List Value, vs.length = ts.len ∧ w.rangeAt b o vs ∧ cellsRep F r (cellsOf ts x) vs ∧ ∀ v ∈ vs, v.oneCell' = true := by
  obtain ⟨vs, h1, h2, h3, h4⟩ := cellsOf_rep (r := r) h
  exact ⟨vs, h1, fun i v hv => hG _ _ _ (h2 i v hv), h3, h4⟩
theorem loadT_run (hs : Sees F r D H w) {t : TypeId} {c : Cell} {x : Part} (h : (loadT P H t c).run = some x) {u : Value} (hu : c.rep F r u) :
    ∃ v, (Instr.loadAt t u).run P w = .ok v w ∧ x.rep F r v ∧ x.inn D := by
  have hla : ∀ a : Addr, (Instr.loadAt t (.pointer (some a))).run P w = (loadVar t a).run P w := fun a => by
    simp only [Instr.loadAt, Instr.sureAddr, Sem.run_bind, Sem.run_pure, Result.andThen_ok]
  unfold loadT at h
  split at h
  · rename_i j off
    split at h
    · rename_i l hj
      rw [Tree.run_ofOpt] at h
      obtain ⟨vs, h1, h2, _, _⟩ := hs.obs j _ hj
      obtain ⟨v, h3, h4⟩ := loadVar_part h1 h2 h
      refine ⟨v, ?_, h4, partA_inn (hs.scp j _ hj) h⟩
      rw [show u = _ from hu, hla]; exact h3
    · cases h
  · rename_i j base n sz idx off
    obtain ⟨rfl, hi⟩ := hu
    split at h
    · rename_i l hj
      obtain ⟨vs, h1, h2, _, _⟩ := hs.obs j _ hj
      have hpos : (r j).o + (base + idx * sz + off) = (r j).o + (base + off + idx * sz) := by omega
      split at h
      · rename_i hagg
        split at h
        · rename_i cs hcs
          obtain ⟨g1, g2⟩ := gath_spec hcs
          have hgi : cs[idx]? = some (cs[idx]'(by omega)) := List.getElem?_eq_getElem _
          have hli := (g2 idx hi).trans hgi
          obtain ⟨v, hv, hvr⟩ := cellsRep_get h1 _ _ hli
          have hrun : (Instr.loadAt t (.pointer (some ⟨(r j).b, (r j).o + (base + idx * sz + off), none⟩))).run P w = .ok v w := by
            rw [hla, hpos]; exact loadVar_one hagg (h2 _ _ hv)
          split at h
          · rename_i c hc
            simp only [Tree.run, Option.some.injEq] at h; subst h
            obtain ⟨k1, k2⟩ := selC_rep (D := D) hc hgi hvr
            exact ⟨v, hrun, k1, k2⟩
          · obtain ⟨c, hc, h⟩ := Tree.run_bind_some h
            simp only [Tree.run, Option.some.injEq] at h; subst h
            obtain ⟨m, e1, e2⟩ := selT_run hc
            have : m = idx := by omega
            subst this
            rw [hgi] at e2; injection e2 with e2; subst e2
            exact ⟨v, hrun, hvr, hs.scp j _ hj _ (List.mem_of_getElem? hli)⟩
        · cases h
      · rename_i hagg
        split at h
        · rename_i m hm
          split at h
          · rename_i cs hcs
            simp only [Tree.run, Option.some.injEq] at h; subst h
            obtain ⟨k1, k2, us, k3, k4⟩ := selL_spec (D := D) h1 hi hcs
            refine ⟨.agg us.toArray, ?_, ⟨us, k3, rfl⟩, k2⟩
            rw [hla, hpos]
            refine loadVar_many hagg hm (by rw [cellsRep_length k3, k1]) (fun k v hv => ?_)
            have := h2 _ _ (k4 k v hv)
            rw [← this]; congr 2; omega
          · cases h
        · cases h
      · cases h
    · cases h
  · rename_i j sz idx off
    obtain ⟨rfl, a, n, cap, hv, hi⟩ := hu
    split at h
    · rename_i ts l hj
      cases hb : Nat.beq sz ts.len with
      | false => rw [hb] at h; cases h
      | true =>
        rw [hb] at h
        simp only [cond_true, Tree.run_ofOpt] at h
        have hsz := Nat.eq_of_beq_eq_true hb
        subst hsz
        rcases hs.obs j _ hj with ⟨h1, _⟩ | ⟨cap', h1, h2, h3, h4, h5⟩
        · rw [h1] at hv; injection hv with _ hv _; subst hv; omega
        · rw [h1] at hv; injection hv with _ hv _; subst hv
          have hx := h5 idx _ (getD_get hi ts.dflt)
          obtain ⟨vs, g1, g2, g3, _⟩ := elem_vals (r := r) (Frag.le_refl (memF w)) hx
          obtain ⟨v, h6, h7⟩ := loadVar_part g3 g2 h
          refine ⟨v, ?_, h7, partA_inn (cellsOf_inn D _ _) h⟩
          rw [hla, ← Nat.add_assoc]; exact h6
    · cases h
  · rename_i ts x'
    rw [Tree.run_ofOpt] at h
    obtain ⟨b, o, rfl, h1⟩ := hu
    obtain ⟨vs, g1, g2, g3, _⟩ := elem_vals (r := r) hs.fin h1
    obtain ⟨v, h6, h7⟩ := loadVar_part g3 g2 h
    exact ⟨v, by rw [hla]; exact h6, h7, partA_inn (cellsOf_inn D _ _) h⟩
  · cases h
end
end Go.Sz
namespace Go.Sz
open Go Go.RowKit Go.Sy
set_option linter.unusedVariables false
set_option linter.unusedSimpArgs false
set_option linter.constructorNameAsVariable false
def dropQ : Nat → (ts : Tys) → ts.den → Cell
  | 0, ts, x => .q ts x
  | k + 1, .cons _ ts, x => dropQ k ts x.2
  | _ + 1, .nil, _ => .q .nil ()
theorem dropQ_rep {F : Frag} {r : Loc} : ∀ {k : Nat} {ts : Tys} {x : ts.den} {b o : Nat}, RepC F F b o ts x → (dropQ k ts x).rep F r (.pointer (some ⟨b, o + k, none⟩))
  | 0, ts, x, b, o, h => ⟨b, o, rfl, h⟩
  | k + 1, .cons t ts, x, b, o, h => by
    simp only [RepC] at h
    have := dropQ_rep (r := r) (k := k) h.2
    rw [show o + 1 + k = o + (k + 1) by omega] at this
    exact this
  | k + 1, .nil, x, b, o, h => ⟨b, _, rfl, by simp only [RepC]⟩
theorem dropQ_inn {D : Nat → Prop} : ∀ {k : Nat} {ts : Tys} {x : ts.den}, (dropQ k ts x).inn D
  | 0, ts, x => trivial
  | k + 1, .cons t ts, x => dropQ_inn (k := k)
  | k + 1, .nil, x => trivial
def mxGt (lo : Nat) : Option Nat → Bool
  | none => true
  | some m => Nat.blt lo m
def isConstO : Operand → Bool
  | .const _ => true
  | _ => false
def inB (i : Int) (n : Nat) : Bool := decide (0 ≤ i) && decide (i < (n : Int))
theorem inB_spec {i : Int} {n : Nat} (h : inB i n = true) : 0 ≤ i ∧ i < (n : Int) ∧ i.toNat < n := by
  unfold inB at h
  simp only [Bool.and_eq_true, decide_eq_true_eq] at h
  omega
def intOf : Cell → Option Int
  | .v (.int _ n) => some n
  | .w _ x => some (x.toNat : Int)
  | _ => none
/-! ### indexAddr -/
def idxAddrT (P : Program) (H : Hf) (t : TypeId) (c : Cell) (i : Int) (lit : Bool) : Tree Cell :=
  match P.underlying t with
  | some (.array len elem) => match pureSem P (sizeOf elem), c with
    | some sz, .p j off => .ck (inB i len) (bif lit then .ret (.p j (off + i.toNat * sz)) else .ret (.e j off len sz i.toNat 0))
    | some sz, .q ts x => bif lit then .ck (inB i len) (.ret (dropQ (i.toNat * sz) ts x)) else .fail
    | _, _ => .fail
  | some (.slice elem) => match pureSem P (sizeOf elem), c with
    | some sz, .d ts l => bif Nat.beq sz ts.len then .ck (inB i l.length) (.ret (.q ts (l.getD i.toNat ts.dflt))) else .fail
    | some sz, .h j => match H j with
      | some (.row ts l) => bif Nat.beq sz ts.len then .ck (inB i l.length) (.ret (.er j sz i.toNat 0)) else .fail
      | some (.frz ts l) => bif Nat.beq sz ts.len then .ck (inB i l.length) (.ret (.q ts (l.getD i.toNat ts.dflt))) else .fail
      | _ => .fail
    | some sz, .hs j sz' lo n mx => match H j with
      | some (.row ts l) => bif Nat.beq sz ts.len && Nat.beq sz' sz then .ck (inB i n && (Nat.ble (lo + n) l.length && mxGt lo mx)) (.ret (.er j sz (lo + i.toNat) 0)) else .fail
      | _ => .fail
    | some sz, .s j off sz' n cap => bif Nat.beq sz' sz then .ck (inB i n) (.ret (.e j off n sz i.toNat 0)) else .fail
    | _, _ => .fail
  | _ => .fail
section
variable {P : Program} {F : Frag} {r : Loc} {D : Nat → Prop} {w : World} {H : Hf}
theorem indexAt_slice {t elem : TypeId} {sz : Nat} (hu : P.underlying t = some (.slice elem)) (hs : pureSem P (sizeOf elem) = some sz) {i : Int} {n : Nat} (hi : 0 ≤ i ∧ i < (n : Int) ∧ i.toNat < n) (k : IntKind) (b o cap : Nat) :
    (Instr.indexAt t (.slice (some ⟨b, o, none⟩) n cap) (.int k i)).run P w = .ok (.pointer (some ⟨b, o + i.toNat * sz, none⟩)) w := by
  have h2 : 0 ≤ i ∧ i < (n : Int) := ⟨hi.1, hi.2.1⟩
  simp only [Instr.indexAt, asIntOf, Sem.run_bind, Sem.run_pure, Result.andThen_ok, run_underlying hu, if_pos h2, pureSem_run hs, Addr.add_mid]
theorem row_hdr {j : Nat} {ts : Tys} {l : List ts.den} (h : ObIs F r (r j) w (.row ts l)) {i : Nat} (hi : i < l.length) :
    ∃ cap, (r j).hv = .slice (some ⟨(r j).b, (r j).o, none⟩) l.length cap ∧ l.length ≤ cap ∧ cap ≤ maxLen ∧ w.there (r j).b (r j).o (cap * ts.len) ∧ ∀ i x, l[i]? = some x → RepC (memF w) F (r j).b ((r j).o + i * ts.len) ts x := by
  rcases h with ⟨_, h⟩ | h
  · subst h; simp at hi
  · exact h
theorem elem_q {t elem : TypeId} {sz : Nat} (hut : P.underlying t = some (.slice elem)) (hsz : pureSem P (sizeOf elem) = some sz) {ts : Tys} {l : List ts.den} {u : Value} (hu : RepT F (.sl ts) l u) (e : sz = ts.len) {i : Int} (hi : 0 ≤ i ∧ i < (l.length : Int) ∧ i.toNat < l.length) (k : IntKind) :
    ∃ v, (Instr.indexAt t u (.int k i)).run P w = .ok v w ∧ (Cell.q ts (l.getD i.toNat ts.dflt)).rep F r v := by
  simp only [RepT] at hu
  obtain ⟨a, cap, rfl, h1, h2, h3⟩ := hu
  obtain ⟨b, o, rfl, h4⟩ := h3 (fun e => by subst e; simp at hi)
  refine ⟨_, indexAt_slice hut hsz hi k b o cap, b, _, rfl, ?_⟩
  rw [e]
  exact h4 i.toNat _ (getD_get hi.2.2 _)
theorem idxAddrT_run (hs : Sees F r D H w) {t : TypeId} {c c' : Cell} {i : Int} {lit : Bool} (h : (idxAddrT P H t c i lit).run = some c') {u : Value} (hu : c.rep F r u) (hc : c.inn D) (k : IntKind) :
    ∃ v, (Instr.indexAt t u (.int k i)).run P w = .ok v w ∧ c'.rep F r v ∧ c'.inn D := by
  unfold idxAddrT at h
  split at h
  · rename_i len elem hut
    have harr : ∀ (b o sz : Nat), pureSem P (sizeOf elem) = some sz → 0 ≤ i ∧ i < (len : Int) → (Instr.indexAt t (.pointer (some ⟨b, o, none⟩)) (.int k i)).run P w = .ok (.pointer (some ⟨b, o + i.toNat * sz, none⟩)) w := fun b o sz hsz h2 => by
      simp only [Instr.indexAt, Instr.sureAddr, asIntOf, Sem.run_bind, Sem.run_pure, Result.andThen_ok, run_underlying hut, if_pos h2, pureSem_run hsz, Addr.add_mid]
    split at h
    · rename_i _ sz j off hsz
      obtain ⟨hb, h⟩ := Tree.run_ck h
      have hi := inB_spec hb
      rw [show u = _ from hu]
      have hrun := harr (r j).b ((r j).o + off) sz hsz ⟨hi.1, hi.2.1⟩
      cases lit with
      | true =>
        simp only [cond_true, Tree.run, Option.some.injEq] at h; subst h
        exact ⟨_, hrun, by simp only [Cell.rep, Nat.add_assoc], hc⟩
      | false =>
        simp only [cond_false, Tree.run, Option.some.injEq] at h; subst h
        exact ⟨_, hrun, ⟨by simp only [Nat.add_assoc, Nat.add_zero], hi.2.2⟩, hc⟩
    · rename_i _ sz ts x hsz
      cases lit with
      | false => cases h
      | true =>
        simp only [cond_true] at h
        obtain ⟨hb, h⟩ := Tree.run_ck h
        have hi := inB_spec hb
        simp only [Tree.run, Option.some.injEq] at h; subst h
        obtain ⟨b, o, rfl, h1⟩ := hu
        exact ⟨_, harr b o sz hsz ⟨hi.1, hi.2.1⟩, dropQ_rep h1, dropQ_inn⟩
    · cases h
  · rename_i elem hut
    split at h
    · rename_i _ sz ts l hsz
      cases hb : Nat.beq sz ts.len with
      | false => rw [hb] at h; cases h
      | true =>
        rw [hb] at h
        simp only [cond_true] at h
        obtain ⟨hb2, h⟩ := Tree.run_ck h
        simp only [Tree.run, Option.some.injEq] at h; subst h
        obtain ⟨v, h1, h2⟩ := elem_q (r := r) (w := w) hut hsz hu (Nat.eq_of_beq_eq_true hb) (inB_spec hb2) k
        exact ⟨v, h1, h2, trivial⟩
    · rename_i _ sz j hsz
      split at h
      · rename_i ts l hj
        cases hb : Nat.beq sz ts.len with
        | false => rw [hb] at h; cases h
        | true =>
          rw [hb] at h
          simp only [cond_true] at h
          obtain ⟨hb2, h⟩ := Tree.run_ck h
          simp only [Tree.run, Option.some.injEq] at h; subst h
          have hi := inB_spec hb2
          obtain ⟨cap, h1, _⟩ := row_hdr (hs.obs j _ hj) hi.2.2
          rw [hu.1, h1]
          exact ⟨_, indexAt_slice hut hsz hi k _ _ cap, ⟨by simp, _, _, _, h1, hi.2.2⟩, hc⟩
      · rename_i ts l hj
        cases hb : Nat.beq sz ts.len with
        | false => rw [hb] at h; cases h
        | true =>
          rw [hb] at h
          simp only [cond_true] at h
          obtain ⟨hb2, h⟩ := Tree.run_ck h
          simp only [Tree.run, Option.some.injEq] at h; subst h
          have h0 : RepT F (.sl ts) l u := by rw [hu.1]; exact hs.obs j _ hj
          obtain ⟨v, h1, h2⟩ := elem_q (r := r) (w := w) hut hsz h0 (Nat.eq_of_beq_eq_true hb) (inB_spec hb2) k
          exact ⟨v, h1, h2, trivial⟩
      · cases h
    · rename_i _ sz j sz' lo n mx hsz
      split at h
      · rename_i ts l hj
        cases hb : (Nat.beq sz ts.len && Nat.beq sz' sz) with
        | false => rw [hb] at h; cases h
        | true =>
          rw [hb] at h
          simp only [cond_true] at h
          simp only [Bool.and_eq_true] at hb
          obtain ⟨hb2, h⟩ := Tree.run_ck h
          simp only [Tree.run, Option.some.injEq] at h; subst h
          simp only [Bool.and_eq_true] at hb2
          have hi := inB_spec hb2.1
          have hle : lo + n ≤ l.length := Nat.le_of_ble_eq_true hb2.2.1
          have he : sz' = sz := Nat.eq_of_beq_eq_true hb.2
          subst he
          obtain ⟨cap, h1, h2, _⟩ := row_hdr (i := lo + i.toNat) (hs.obs j _ hj) (by omega)
          obtain ⟨hu, hone⟩ := hu
          rw [h1, subHdr] at hu
          have hmx : mx.getD cap ≠ lo := by
            cases mx with
            | none => simp; omega
            | some m =>
              have : lo < m := Nat.le_of_ble_eq_true hb2.2.2
              simp; omega
          rw [if_neg hmx] at hu
          simp only [Option.map_some, Addr.add_mid] at hu
          rw [hu]
          refine ⟨_, indexAt_slice hut hsz hi k _ _ _, ⟨?_, _, _, _, h1, by omega⟩, hc⟩
          rw [Nat.add_mul]; simp [Nat.add_assoc]
      · cases h
    · rename_i _ sz j off sz' n cap hsz
      cases hb : Nat.beq sz' sz with
      | false => rw [hb] at h; cases h
      | true =>
        rw [hb] at h
        simp only [cond_true] at h
        obtain ⟨hb2, h⟩ := Tree.run_ck h
        simp only [Tree.run, Option.some.injEq] at h; subst h
        have hi := inB_spec hb2
        rw [show u = _ from hu]
        exact ⟨_, indexAt_slice hut hsz hi k _ _ cap, ⟨by simp only [Nat.add_assoc, Nat.add_zero], hi.2.2⟩, hc⟩
    · cases h
  · cases h
end
end Go.Sz
namespace Go.Sz
open Go Go.RowKit Go.Sy
set_option linter.unusedVariables false
set_option linter.unusedSimpArgs false
set_option linter.constructorNameAsVariable false
/-! ### slice -/
def cut {ts : Tys} (l : List ts.den) (lo hi : Nat) : List ts.den := (l.drop lo).take (hi - lo)
def mxOf : Option Int → Nat → Option Nat
  | none, _ => none
  | some _, m => some m
def sliceT (P : Program) (H : Hf) (t : TypeId) (c : Cell) (lo hi mx : Option Int) (gen : Tree Cell) : Tree Cell :=
  match P.underlying t with
  | some (.array n elem) => match pureSem P (sizeOf elem), c with
    | some sz, .p j off => (boundsA n n lo hi mx).bind fun q => .ret (.s j (bif Nat.beq q.2.2 q.1 then off else off + q.1 * sz) sz (q.2.1 - q.1) (q.2.2 - q.1))
    | _, _ => .fail
  | some (.slice elem) => match pureSem P (sizeOf elem), c with
    | some sz, .s j off _ n cap => (boundsA n cap lo hi mx).bind fun q => .ck (Nat.ble n cap) (.ret (.s j (bif Nat.beq q.2.2 q.1 then off else off + q.1 * sz) sz (q.2.1 - q.1) (q.2.2 - q.1)))
    | some sz, .d ts l => bif Nat.beq sz ts.len then (boundsA l.length l.length lo hi mx).bind fun q => .ret (.d ts (cut l q.1 q.2.1)) else .fail
    | some sz, .h j => match H j with
      | some (.row ts l) => bif Nat.beq sz ts.len then (boundsA l.length l.length lo hi mx).bind fun q => .ret (.hs j sz q.1 (q.2.1 - q.1) (mxOf mx q.2.2)) else .fail
      | some (.frz ts l) => bif Nat.beq sz ts.len then (boundsA l.length l.length lo hi mx).bind fun q => .ret (.d ts (cut l q.1 q.2.1)) else .fail
      | _ => .fail
    | _, _ => gen
  | some .string => match c, mx with
    | .v (.string s), none => (boundsA s.size s.size lo hi none).bind fun q => .ret (.v (.string (s.extract q.1 q.2.1)))
    | _, _ => .fail
  | _ => .fail
section
variable {P : Program} {F : Frag} {r : Loc} {D : Nat → Prop} {w : World} {H : Hf}
theorem sliceAt_slice {t elem : TypeId} {sz : Nat} (hu : P.underlying t = some (.slice elem)) (hs : pureSem P (sizeOf elem) = some sz) {a : Option Addr} {n cap : Nat} {lo hi mx : Option Value} {l h m : Nat} (w : World)
    (hb : (Instr.sliceBounds true n cap lo hi mx).run P w = .ok (l, h, m) w) : (Instr.sliceAt t (.slice a n cap) lo hi mx).run P w = .ok (.slice (if m = l then a else a.map (·.add (l * sz))) (h - l) (m - l)) w := by
  simp only [Instr.sliceAt, Instr.slice, Sem.run_bind, Sem.run_pure, Result.andThen_ok, run_underlying hu, hb, pureSem_run hs]
theorem cut_rep {ts : Tys} {l : List ts.den} {a : Option Addr} {cap lo hi m : Nat} (hu : RepT F (.sl ts) l (.slice a l.length cap)) (h1 : lo ≤ hi) (h2 : hi ≤ l.length) (h3 : hi ≤ m) (h4 : m ≤ cap) :
    RepT F (.sl ts) (cut l lo hi) (.slice (if m = lo then a else a.map (·.add (lo * ts.len))) (hi - lo) (m - lo)) := by
  simp only [RepT] at hu ⊢
  obtain ⟨a', cap', e, g1, g2, g3⟩ := hu
  injection e with e1 _ e3
  subst e1 e3
  have hlen : (cut l lo hi).length = hi - lo := by simp [cut]; omega
  refine ⟨_, _, by rw [hlen], by rw [hlen]; omega, by omega, fun hne => ?_⟩
  have hlt : lo < hi := by
    rcases Nat.lt_or_ge lo hi with h | h
    · exact h
    · exact absurd (List.length_eq_zero_iff.1 (by rw [hlen]; omega)) hne
  obtain ⟨b, o, rfl, g4⟩ := g3 (fun e => by subst e; simp at h2; omega)
  refine ⟨b, o + lo * ts.len, by rw [if_neg (by omega)]; simp [Addr.add_mid], fun i x hx => ?_⟩
  have hx' : l[lo + i]? = some x := by
    unfold cut at hx
    rw [List.getElem?_take] at hx
    split at hx
    · rw [List.getElem?_drop] at hx; exact hx
    · cases hx
  have := g4 (lo + i) x hx'
  rw [Nat.add_mul, ← Nat.add_assoc] at this
  exact this
theorem sliceT_run (hs : Sees F r D H w) {t : TypeId} {c c' : Cell} {lo hi mx : Option Int} {gen : Tree Cell} (h : (sliceT P H t c lo hi mx gen).run = some c') {u : Value} (hu : c.rep F r u) (hc : c.inn D) {lo' hi' mx' : Option Value}
    (hlo : valI lo lo') (hhi : valI hi hi') (hmx : valI mx mx') (hg : gen.run = some c' → ∃ v, (Instr.sliceAt t u lo' hi' mx').run P w = .ok v w ∧ c'.rep F r v ∧ c'.inn D) :
    ∃ v, (Instr.sliceAt t u lo' hi' mx').run P w = .ok v w ∧ c'.rep F r v ∧ c'.inn D := by
  have hadd : ∀ (b o l m sz : Nat), (if m = l then (⟨b, o, none⟩ : Addr) else Addr.add ⟨b, o, none⟩ (l * sz)) = ⟨b, bif Nat.beq m l then o else o + l * sz, none⟩ := fun b o l m sz => by
    by_cases e : m = l
    · subst e; simp
    · rw [if_neg e, Addr.add_mid]
      have : Nat.beq m l = false := by
        cases hh : Nat.beq m l with
        | false => rfl
        | true => exact absurd (Nat.eq_of_beq_eq_true hh) e
      rw [this]; rfl
  have hcond : ∀ (b : Bool) (x y z : Nat), x + (bif b then y else y + z) = bif b then x + y else x + y + z := fun b x y z => by cases b <;> simp [Nat.add_assoc]
  unfold sliceT at h
  split at h
  · rename_i n elem hut
    split at h
    · rename_i _ sz j off hsz
      obtain ⟨q, hq, h⟩ := Tree.run_bind_some h
      simp only [Tree.run, Option.some.injEq] at h; subst h
      obtain ⟨hb, q1, q2, q3, q4⟩ := boundsA_run (P := P) hq (Nat.le_refl _) (Nat.le_refl _) hlo hhi hmx false w
      have hm : (if mx.isSome then q.2.2 else n) = q.2.2 := by
        cases mx with
        | none => simp [q4 rfl]
        | some _ => rfl
      rw [hm] at hb
      refine ⟨_, ?_, rfl, hc⟩
      rw [show u = _ from hu]
      simp only [Instr.sliceAt, Instr.sureAddr, Sem.run_bind, Sem.run_pure, Result.andThen_ok, run_underlying hut, hb, pureSem_run hsz, hadd, hcond]
    · cases h
  · rename_i elem hut
    split at h
    · rename_i _ sz j off sz0 n cap hsz
      obtain ⟨q, hq, h⟩ := Tree.run_bind_some h
      obtain ⟨hck, h⟩ := Tree.run_ck h
      simp only [Tree.run, Option.some.injEq] at h; subst h
      obtain ⟨hb, q1, q2, q3, q4⟩ := boundsA_run (P := P) hq (Nat.le_refl _) (Nat.le_of_ble_eq_true hck) hlo hhi hmx true w
      have hm : (if mx.isSome then q.2.2 else cap) = q.2.2 := by
        cases mx with
        | none => simp [q4 rfl]
        | some _ => rfl
      rw [hm] at hb
      refine ⟨_, ?_, rfl, hc⟩
      rw [show u = _ from hu, sliceAt_slice hut hsz w hb]
      have := hadd (r j).b ((r j).o + off) q.1 q.2.2 sz
      rw [← hcond, ] at this
      congr 2
      by_cases e : q.2.2 = q.1
      · rw [if_pos e] at this ⊢; rw [this]
      · rw [if_neg e] at this ⊢; rw [Option.map_some, this]
    · rename_i _ sz ts l hsz
      cases hbb : Nat.beq sz ts.len with
      | false => rw [hbb] at h; cases h
      | true =>
        rw [hbb] at h
        simp only [cond_true] at h
        obtain ⟨q, hq, h⟩ := Tree.run_bind_some h
        simp only [Tree.run, Option.some.injEq] at h; subst h
        have hu0 : RepT F (.sl ts) l u := hu
        have hu1 := hu0
        simp only [RepT] at hu1
        obtain ⟨a, cap, rfl, g1, g2, g3⟩ := hu1
        obtain ⟨hb, q1, q2, q3, q4⟩ := boundsA_run (P := P) hq g1 (Nat.le_refl _) hlo hhi hmx true w
        have e := Nat.eq_of_beq_eq_true hbb
        subst e
        refine ⟨_, sliceAt_slice hut hsz w hb, cut_rep hu0 q1 (by omega) ?_ ?_, trivial⟩
        · split <;> omega
        · split <;> omega
    · rename_i _ sz j hsz
      split at h
      · rename_i ts l hj
        cases hbb : Nat.beq sz ts.len with
        | false => rw [hbb] at h; cases h
        | true =>
          rw [hbb] at h
          simp only [cond_true] at h
          obtain ⟨q, hq, h⟩ := Tree.run_bind_some h
          simp only [Tree.run, Option.some.injEq] at h; subst h
          have main : ∀ (a : Option Addr) (cap : Nat), (r j).hv = .slice a l.length cap → l.length ≤ cap →
              ∃ v, (Instr.sliceAt t u lo' hi' mx').run P w = .ok v w ∧ (Cell.hs j sz q.1 (q.2.1 - q.1) (mxOf mx q.2.2)).rep F r v ∧ (Cell.hs j sz q.1 (q.2.1 - q.1) (mxOf mx q.2.2)).inn D := by
            intro a cap hhv hle
            obtain ⟨hb, q1, q2, q3, q4⟩ := boundsA_run (P := P) hq hle (Nat.le_refl _) hlo hhi hmx true w
            rw [hu.1, hhv]
            refine ⟨_, sliceAt_slice hut hsz w hb, ⟨?_, rfl⟩, hc⟩
            rw [hhv]
            cases mx <;> rfl
          rcases hs.obs j _ hj with ⟨h1, h2⟩ | ⟨cap, h1, h2, _⟩
          · exact main none 0 (by rw [h1, h2]; rfl) (by rw [h2]; simp)
          · exact main _ cap h1 h2
      · rename_i ts l hj
        cases hbb : Nat.beq sz ts.len with
        | false => rw [hbb] at h; cases h
        | true =>
          rw [hbb] at h
          simp only [cond_true] at h
          obtain ⟨q, hq, h⟩ := Tree.run_bind_some h
          simp only [Tree.run, Option.some.injEq] at h; subst h
          have hu0 : RepT F (.sl ts) l u := by rw [hu.1]; exact hs.obs j _ hj
          have hu1 := hu0
          simp only [RepT] at hu1
          obtain ⟨a, cap, rfl, g1, g2, g3⟩ := hu1
          obtain ⟨hb, q1, q2, q3, q4⟩ := boundsA_run (P := P) hq g1 (Nat.le_refl _) hlo hhi hmx true w
          have e := Nat.eq_of_beq_eq_true hbb
          subst e
          refine ⟨_, sliceAt_slice hut hsz w hb, cut_rep hu0 q1 (by omega) ?_ ?_, trivial⟩
          · split <;> omega
          · split <;> omega
      · cases h
    · exact hg h
  · rename_i hut
    split at h
    · rename_i _ s
      obtain ⟨q, hq, h⟩ := Tree.run_bind_some h
      simp only [Tree.run, Option.some.injEq] at h; subst h
      obtain ⟨hb, q1, q2, q3, q4⟩ := boundsA_run (P := P) hq (Nat.le_refl _) (Nat.le_refl _) hlo hhi (mx' := none) trivial false w
      rw [valI_none hmx, show u = _ from hu]
      refine ⟨.string (s.extract q.1 q.2.1), ?_, rfl, trivial⟩
      simp only [Instr.sliceAt, Instr.slice, Sem.run_bind, Sem.run_pure, Result.andThen_ok, run_underlying hut, hb, Option.isSome_none, Bool.false_eq_true, if_false]
    · cases h
  · cases h
end
/-! ### len, cap -/
def lenT (P : Program) (H : Hf) (b : Builtin) (ts : List TypeId) (c : Cell) (gen : Tree AV) : Tree AV :=
  match b, ts with
  | .len, t :: _ => match P.underlying t with
    | some (.slice _) => match c with
      | .d _ l => .ret (AV.c (.v (.int .i64 l.length)))
      | .h j => match H j with
        | some (.row _ l) => .ret (AV.c (.v (.int .i64 l.length)))
        | some (.frz _ l) => .ret (AV.c (.v (.int .i64 l.length)))
        | _ => .fail
      | .hs j _ _ n _ => match H j with
        | some (.row _ _) => .ret (AV.c (.v (.int .i64 n)))
        | _ => .fail
      | .s _ _ _ n _ => .ret (AV.c (.v (.int .i64 n)))
      | _ => gen
    | some (.map _ _) => match c with
      | .h j => match H j with
        | some (.mp _ _ m) => .ret (AV.c (.v (.int .i64 m.length)))
        | _ => .fail
      | _ => gen
    | _ => gen
  | .cap, t :: _ => match P.underlying t with
    | some (.slice _) => match c with
      | .s _ _ _ _ cap => .ret (AV.c (.v (.int .i64 cap)))
      | _ => gen
    | _ => gen
  | _, _ => gen
section
variable {P : Program} {F : Frag} {r : Loc} {D : Nat → Prop} {w : World} {H : Hf}
theorem entriesRep_length {kt : Ty} {vt : Vt} : ∀ {m : List (kt.den × vt.den)} {es : List MapEntry}, entriesRep F kt vt m es → es.length = m.length
  | [], [], _ => rfl
  | [], _ :: _, h => h.elim
  | _ :: _, [], h => h.elim
  | _ :: _, _ :: _, h => by simp [entriesRep_length h.2.2]
theorem lenT_run (hs : Sees F r D H w) {b : Builtin} {c : Cell} {ts : Array TypeId} {gen : Tree AV} {av : AV} (h : (lenT P H b ts.toList c gen).run = some av) {u : Value} (hu : c.rep F r u) (t : TypeId) (cs : Array Bool)
    (hg : gen.run = some av → Yn F r D w av ((builtin b ts t cs #[u]).run P w)) : Yn F r D w av ((builtin b ts t cs #[u]).run P w) := by
  have h1 : ∀ v : Value, (#[v] : Array Value)[0]? = some v := fun _ => rfl
  unfold lenT at h
  split at h
  · rename_i t1 l hl
    have h0 : ts[0]? = some t1 := by rw [← Array.getElem?_toList, hl]; rfl
    split at h
    · rename_i e hut
      have main : ∀ (a : Option Addr) (n cap : Nat), u = .slice a n cap → Yn F r D w (AV.c (.v (.int .i64 n))) ((builtin .len ts t cs #[u]).run P w) := fun a n cap e => Yn.v (by
        rw [e]
        simp only [builtin, Builtin.len_, h0, h1, Sem.run_bind, run_underlying hut, Result.andThen_ok, Sem.run_pure, goInt])
      split at h
      · rename_i ts' l'
        simp only [Tree.run, Option.some.injEq] at h; subst h
        have hu' : RepT F (.sl ts') l' u := hu
        simp only [RepT] at hu'
        obtain ⟨a, cap, e, _⟩ := hu'
        exact main _ _ _ e
      · rename_i j
        split at h
        · rename_i ts' l' hj
          simp only [Tree.run, Option.some.injEq] at h; subst h
          rcases hs.obs j _ hj with ⟨g1, g2⟩ | ⟨cap, g1, _⟩
          · exact main none _ 0 (by rw [hu.1, g1, g2]; rfl)
          · exact main _ _ cap (by rw [hu.1, g1])
        · rename_i ts' l' hj
          simp only [Tree.run, Option.some.injEq] at h; subst h
          have hu' : RepT F (.sl ts') l' u := by rw [hu.1]; exact hs.obs j _ hj
          simp only [RepT] at hu'
          obtain ⟨a, cap, e, _⟩ := hu'
          exact main _ _ _ e
        · cases h
      · rename_i j sz lo n mx
        split at h
        · rename_i ts' l' hj
          simp only [Tree.run, Option.some.injEq] at h; subst h
          rcases hs.obs j _ hj with ⟨g1, g2⟩ | ⟨cap, g1, _⟩
          · exact main _ _ _ (by rw [hu.1, g1]; rfl)
          · exact main _ _ _ (by rw [hu.1, g1]; rfl)
        · cases h
      · simp only [Tree.run, Option.some.injEq] at h; subst h
        exact main _ _ _ hu
      · exact hg h
    · rename_i k e hut
      split at h
      · rename_i j
        split at h
        · rename_i kt vt m hj
          simp only [Tree.run, Option.some.injEq] at h; subst h
          obtain ⟨g0, es, clock, g1, g2, _⟩ := hs.obs j _ hj
          have hlen := entriesRep_length g2
          refine Yn.v ?_
          rw [hu.1, g0]
          simp only [builtin, Builtin.len_, h0, h1, Sem.run_bind, run_underlying hut, Result.andThen_ok, Sem.run_pure, goInt, getObj, Sem.run, g1]
          rw [← hlen]; simp
        · cases h
      · exact hg h
    · exact hg h
  · rename_i t1 l hl
    have h0 : ts[0]? = some t1 := by rw [← Array.getElem?_toList, hl]; rfl
    split at h
    · rename_i e hut
      split at h
      · simp only [Tree.run, Option.some.injEq] at h; subst h
        refine Yn.v ?_
        rw [show u = _ from hu]
        simp only [builtin, Builtin.cap_, h0, h1, Sem.run_bind, run_underlying hut, Result.andThen_ok, Sem.run_pure, goInt]
      · exact hg h
    · exact hg h
  · exact hg h
end
end Go.Sz
namespace Go.Sz
open Go Go.RowKit Go.Sy
set_option linter.unusedVariables false
set_option linter.unusedSimpArgs false
set_option linter.constructorNameAsVariable false
/-! ### index -/
def byteAt (s : ByteArray) (i : Nat) : BitVec 8 := match s[i]? with
  | some b => b.toBitVec
  | none => 0#8
def selTA (P : Program) (elem : TypeId) (l : List Cell) (sz i : Nat) : Nat → Nat → Tree Part
  | 0, _ => .fail
  | n + 1, k => .ite (Nat.beq i k) (Tree.ofOpt (partA P elem l (k * sz))) (selTA P elem l sz i n (k + 1))
theorem selTA_run {P : Program} {elem : TypeId} {l : List Cell} {sz i : Nat} {y : Part} : ∀ {n k : Nat}, (selTA P elem l sz i n k).run = some y → partA P elem l (i * sz) = some y
  | 0, _, h => by cases h
  | n + 1, k, h => by
    simp only [selTA, Tree.run] at h
    cases hb : Nat.beq i k with
    | true =>
      rw [hb] at h
      simp only [cond_true, Tree.run_ofOpt] at h
      rw [Nat.eq_of_beq_eq_true hb]; exact h
    | false =>
      rw [hb] at h
      exact selTA_run h
def indexT (P : Program) (t : TypeId) (x : Part) (i : Int) (lit : Bool) : Tree Part :=
  match P.underlying t, x with
  | some (.array len elem), .many l => match pureSem P (sizeOf elem) with
    | some sz => .ck (inB i len) (bif lit then Tree.ofOpt (partA P elem l (i.toNat * sz)) else match pureSem P (isAgg elem) with
      | some false => match gath l sz len 0 with
        | some cs => match selC cs i.toNat with
          | some c => .ret (.one c)
          | none => (selT cs i.toNat 0).bind fun c => .ret (.one c)
        | none => .fail
      | some true => match selL l sz len i.toNat sz 0 with
        | some cs => .ret (.many cs)
        | none => selTA P elem l sz i.toNat len 0
      | none => .fail)
    | none => .fail
  | some .string, .one (.v (.string s)) => .ck (inB i s.size) (.ret (.one (.w .u8 (byteAt s i.toNat))))
  | _, _ => .fail
section
variable {P : Program} {F : Frag} {r : Loc} {D : Nat → Prop} {w : World} {H : Hf}
theorem indexT_run {t : TypeId} {x y : Part} {i : Int} {lit : Bool} (h : (indexT P t x i lit).run = some y) {u : Value} (hu : x.rep F r u) (hx : x.inn D) (k : IntKind) :
    ∃ v, (Instr.index t u (.int k i)).run P w = .ok v w ∧ y.rep F r v ∧ y.inn D := by
  unfold indexT at h
  split at h
  · rename_i len elem l hut
    obtain ⟨us, hus, rfl⟩ := hu
    split at h
    · rename_i sz hsz
      obtain ⟨hb, h⟩ := Tree.run_ck h
      have hi := inB_spec hb
      have h2 : 0 ≤ i ∧ i < (len : Int) := ⟨hi.1, hi.2.1⟩
      have hrun : (Instr.index t (.agg us.toArray) (.int k i)).run P w = (part elem us.toArray (i.toNat * sz)).run P w := by
        simp only [Instr.index, asIntOf, Sem.run_bind, Sem.run_pure, Result.andThen_ok, run_underlying hut, if_pos h2, pureSem_run hsz]
      rw [hrun]
      cases lit with
      | true =>
        simp only [cond_true, Tree.run_ofOpt] at h
        obtain ⟨v, g1, g2⟩ := partA_run (w := w) hus h
        exact ⟨v, g1, g2, partA_inn hx h⟩
      | false =>
        simp only [cond_false] at h
        split at h
        · rename_i hagg
          split at h
          · rename_i cs hcs
            obtain ⟨g1, g2⟩ := gath_spec hcs
            have hgi : cs[i.toNat]? = some (cs[i.toNat]'(by omega)) := List.getElem?_eq_getElem _
            have hli := (g2 i.toNat hi.2.2).trans hgi
            rw [Nat.zero_add] at hli
            obtain ⟨v, hv, hvr⟩ := cellsRep_get hus _ _ hli
            have hp : (part elem us.toArray (i.toNat * sz)).run P w = .ok v w := by
              unfold part
              rw [Sem.run_bind, pureSem_run hagg]
              simp [hv]
            split at h
            · rename_i c hc
              simp only [Tree.run, Option.some.injEq] at h; subst h
              obtain ⟨k1, k2⟩ := selC_rep (D := D) hc hgi hvr
              exact ⟨v, hp, k1, k2⟩
            · obtain ⟨c, hc, h⟩ := Tree.run_bind_some h
              simp only [Tree.run, Option.some.injEq] at h; subst h
              obtain ⟨m, e1, e2⟩ := selT_run hc
              have : m = i.toNat := by omega
              subst this
              rw [hgi] at e2; injection e2 with e2; subst e2
              exact ⟨v, hp, hvr, hx _ (List.mem_of_getElem? hli)⟩
          · cases h
        · rename_i hagg
          split at h
          · rename_i cs hcs
            simp only [Tree.run, Option.some.injEq] at h; subst h
            obtain ⟨k1, k2, vs, k3, k4⟩ := selL_spec (D := D) hus hi.2.2 hcs
            refine ⟨.agg vs.toArray, ?_, ⟨vs, k3, rfl⟩, k2⟩
            unfold part
            rw [Sem.run_bind, pureSem_run hagg]
            simp only [Result.andThen_ok, if_true, Sem.run_bind, pureSem_run hsz, Sem.run_pure]
            congr 2
            apply Array.ext'
            have hvl : vs.length = sz := by rw [cellsRep_length k3, k1]
            have : vs = (us.drop (i.toNat * sz)).take sz := by
              apply List.ext_getElem?
              intro j
              by_cases hj : j < sz
              · rw [List.getElem?_take, if_pos hj, List.getElem?_drop]
                have e := List.getElem?_eq_getElem (l := vs) (i := j) (by omega)
                have := k4 j _ e
                rw [Nat.zero_add] at this
                rw [e, this]
              · rw [List.getElem?_eq_none (by omega), List.getElem?_eq_none (by simp; omega)]
            simp [this]
          · have h' := selTA_run h
            obtain ⟨v, g1, g2⟩ := partA_run (w := w) hus h'
            exact ⟨v, g1, g2, partA_inn hx h'⟩
        · cases h
    · cases h
  · rename_i s hut
    obtain ⟨hb, h⟩ := Tree.run_ck h
    simp only [Tree.run, Option.some.injEq] at h; subst h
    have hi := inB_spec hb
    rw [show u = .string s from hu]
    refine ⟨_, ?_, rfl, trivial⟩
    have e : s[i.toNat]? = some (s[i.toNat]'hi.2.2) := by simp [hi.2.2]
    simp only [Instr.index, asIntOf, Sem.run_bind, Sem.run_pure, Result.andThen_ok, run_underlying hut, if_pos hi.1, e, byteAt]
    rfl
  · cases h
end
/-! ### All that turns nothing -/
def liftC (t : Tree Cell) : Tree AV := t.bind fun c => .ret (AV.c c)
theorem liftC_run {t : Tree Cell} {av : AV} (h : (liftC t).run = some av) : ∃ c, t.run = some c ∧ av = AV.c c := by
  obtain ⟨c, h1, h2⟩ := Tree.run_bind_some h
  simp only [Tree.run, Option.some.injEq] at h2
  exact ⟨c, h1, h2.symm⟩
def genC (P : Program) (E : Ef) (o : Oper) : Tree Cell := (silGen P E o).bind fun av => match av with
  | .p (.one c) => .ret c
  | _ => .fail
def silT (P : Program) (H : Hf) (E : Ef) (o : Oper) : Tree AV :=
  match o.op with
  | .move x => Tree.ofOpt (evalO E x)
  | .assign x => Tree.ofOpt (evalO E x)
  | .load t a => match evalO E a with
    | some (.p (.one c)) => (loadT P H t c).bind fun x => .ret (.p x)
    | _ => .fail
  | .fieldAddr s x f => match evalO E x, pureSem P (fieldOff s f) with
    | some (.p (.one (.p j off))), some k => .ret (AV.c (.p j (off + k)))
    | some (.p (.one (.e j base n sz idx off))), some k => .ret (AV.c (.e j base n sz idx (off + k)))
    | some (.p (.one (.er j sz idx off))), some k => .ret (AV.c (.er j sz idx (off + k)))
    | some (.p (.one (.q ts y))), some k => .ret (AV.c (dropQ k ts y))
    | _, _ => .fail
  | .field s x f => match evalO E x with
    | some (.p (.many l)) => match fieldA P s f l with
      | some q => .ret (.p q)
      | none => .fail
    | _ => silGen P E o
  | .nilCheck x => match evalO E x with
    | some (.p (.one c)) => bif isPtr c then .ret (AV.c c) else (match c with
      | .clo f caps => .ret (AV.c (.clo f caps))
      | _ => silGen P E o)
    | _ => silGen P E o
  | .index t x i => match evalO E x, evalO E i with
    | some (.p q), some (.p (.one c)) => match intOf c with
      | some n => (indexT P t q n (isConstO i)).bind fun y => .ret (.p y)
      | none => .fail
    | _, _ => .fail
  | .indexAddr t x i => match evalO E x, evalO E i with
    | some (.p (.one c)), some (.p (.one d)) => match intOf d with
      | some n => liftC (idxAddrT P H t c n (isConstO i))
      | none => .fail
    | _, _ => .fail
  | .pick c a b => match evalO E c, evalO E a, evalO E b with
    | some (.p (.one (.v (.bool b)))), some (.p (.one (.v (.bool x)))), some (.p (.one (.v (.bool y)))) => .ret (AV.b (bif b then x else y))
    | some (.p (.one (.v (.bool b)))), some x, some y => .ite b (.ret x) (.ret y)
    | _, _, _ => .fail
  | .binOp op t x y _ => match evalO E x, evalO E y with
    | some (.p (.many xs)), some (.p (.many ys)) => match cmpA P op t (.many xs) (.many ys) with
      | some b => .ret (AV.b b)
      | none => .fail
    | some (.p (.one a)), some (.p (.one b)) => arith P op t a b (nilCmp P op t a b (silGen P E o))
    | _, _ => silGen P E o
  | .unOp op t x => match evalO E x with
    | some (.p (.one a)) => unW P op t a (silGen P E o)
    | _ => silGen P E o
  | .convert src dst x => match evalO E x with
    | some (.p (.one a)) => convW P src dst a (silGen P E o)
    | _ => silGen P E o
  | .slice t x lo hi mx => match evalO E x, optI E lo, optI E hi, optI E mx with
    | some (.p (.one c)), some lo, some hi, some mx => liftC (sliceT P H t c lo hi mx (genC P E o))
    | _, _, _, _ => .fail
  | .call c => match c.callee, c.args.toList with
    | .builtin b, [x] => match evalO E x with
      | some (.p (.one a)) => lenT P H b c.argTypes.toList a (silGen P E o)
      | _ => silGen P E o
    | .builtin b, [x, y] => match evalO E x, evalO E y with
      | some (.p (.one a)), some (.p (.one c)) => mmW b a c (silGen P E o)
      | _, _ => silGen P E o
    | _, _ => silGen P E o
  | .build t parts => match evalParts E parts.toList with
    | some ps => match buildA P t ps with
      | some x => .ret (.p x)
      | none => .fail
    | none => .fail
  | .extract x i => match evalO E x with
    | some (.t l) => match nth l i with
      | some q => .ret (.p q)
      | none => .fail
    | _ => silGen P E o
  | .makeFunc (.func f) first captured => bif Nat.blt f 1000000 && Nat.blt first.size 1000 then match capsOf E (first.toList ++ captured.toList) with
      | some caps => .ret (AV.c (.clo (f + 1000000 * first.size) caps))
      | none => .fail
    else .fail
  | _ => silGen P E o
section
variable {P : Program} {F : Frag} {r : Loc} {D : Nat → Prop} {w : World} {H : Hf} {E : Ef}
theorem genC_run {o : Oper} {c : Cell} (h : (genC P E o).run = some c) {a : Act} (he : EnvR F r E a) (w : World) : ∃ v, (execOp a.eval o).run P w = .ok (.value v) w ∧ c.rep F r v ∧ c.inn D := by
  obtain ⟨av, h1, h2⟩ := Tree.run_bind_some h
  obtain ⟨v, g1, g2, g3⟩ := silGen_run (D := D) h1 he w
  split at h2
  · simp only [Tree.run, Option.some.injEq] at h2; subst h2
    exact ⟨v, g1, g2, g3⟩
  · cases h2
theorem intOf_rep {c : Cell} {n : Int} (h : intOf c = some n) {u : Value} (hu : c.rep F r u) : ∃ k, u = .int k n := by
  unfold intOf at h
  split at h
  · injection h with h; subst h; exact ⟨_, hu⟩
  · injection h with h; subst h; exact ⟨_, hu⟩
  · cases h
theorem Yl.back {s : Sem Value} {av : AV} (h : ∃ v, (do pure (Next.value (← s)) : Sem Next).run P w = .ok (.value v) w ∧ av.rep F r v ∧ av.inn D) : Yl F r D w av (s.run P w) := by
  obtain ⟨v, h1, h2, h3⟩ := h
  rw [Sem.run_bind] at h1
  generalize s.run P w = X at h1
  cases X with
  | halt x w1 => cases h1
  | ok z w1 =>
    simp only [Result.andThen_ok, Sem.run_pure, Result.ok.injEq, Next.value.injEq] at h1
    exact ⟨v, by rw [h1.1, h1.2], h2, h3⟩
theorem vrun {s : Sem Value} {v : Value} (h : s.run P w = .ok v w) : (do pure (Next.value (← s)) : Sem Next).run P w = .ok (.value v) w := by rw [Sem.run_bind, h]; rfl
theorem sil_run (hs : Sees F r D H w) {o : Oper} {av : AV} (h : (silT P H E o).run = some av) {a : Act} (he : EnvR F r E a) (hi : EnvIn D E) :
    ∃ v, (execOp a.eval o).run P w = .ok (.value v) w ∧ av.rep F r v ∧ av.inn D := by
  obtain ⟨dst, op, type, pos, after, guard⟩ := o
  have hgen : (silGen P E ⟨dst, op, type, pos, after, guard⟩).run = some av → ∃ v, (execOp a.eval ⟨dst, op, type, pos, after, guard⟩).run P w = .ok (.value v) w ∧ av.rep F r v ∧ av.inn D := fun hg => silGen_run hg he w
  unfold silT at h
  split at h
  · -- move
    rename_i x ho
    simp only at ho; subst ho
    rw [Tree.run_ofOpt] at h
    exact ⟨_, rfl, evalO_rep he h, evalO_inn hi h⟩
  · rename_i x ho
    simp only at ho; subst ho
    rw [Tree.run_ofOpt] at h
    exact ⟨_, rfl, evalO_rep he h, evalO_inn hi h⟩
  · -- load
    rename_i t x ho
    simp only at ho; subst ho
    split at h
    · rename_i c hx
      obtain ⟨q, hq, h⟩ := Tree.run_bind_some h
      simp only [Tree.run, Option.some.injEq] at h; subst h
      obtain ⟨v, g1, g2, g3⟩ := loadT_run hs hq (evalO_rep he hx)
      exact ⟨v, vrun g1, g2, g3⟩
    · cases h
  · -- fieldAddr
    rename_i s x f ho
    simp only at ho; subst ho
    split at h
    · rename_i j off k hx hk
      simp only [Tree.run, Option.some.injEq] at h; subst h
      have hu : a.eval x = _ := evalO_rep he hx
      refine ⟨_, vrun (by rw [hu]; exact fieldOff_run hk _ _ w), ?_, (evalO_inn hi hx : AV.inn D (AV.c (.p j off)))⟩
      simp only [AV.rep, Part.rep, Cell.rep, Nat.add_assoc]
    · rename_i j base n sz idx off k hx hk
      simp only [Tree.run, Option.some.injEq] at h; subst h
      obtain ⟨hu, hlt⟩ := (evalO_rep he hx : Cell.rep F r (.e j base n sz idx off) (a.eval x))
      refine ⟨_, vrun (by rw [hu]; exact fieldOff_run hk _ _ w), ⟨?_, hlt⟩, (evalO_inn hi hx : AV.inn D (AV.c (.e j base n sz idx off)))⟩
      simp only [Nat.add_assoc]
    · rename_i j sz idx off k hx hk
      simp only [Tree.run, Option.some.injEq] at h; subst h
      obtain ⟨hu, hlt⟩ := (evalO_rep he hx : Cell.rep F r (.er j sz idx off) (a.eval x))
      refine ⟨_, vrun (by rw [hu]; exact fieldOff_run hk _ _ w), ⟨?_, hlt⟩, (evalO_inn hi hx : AV.inn D (AV.c (.er j sz idx off)))⟩
      simp only [Nat.add_assoc]
    · rename_i ts y k hx hk
      simp only [Tree.run, Option.some.injEq] at h; subst h
      obtain ⟨b, o, hu, hr⟩ := (evalO_rep he hx : Cell.rep F r (.q ts y) (a.eval x))
      exact ⟨_, vrun (by rw [hu]; exact fieldOff_run hk _ _ w), dropQ_rep hr, dropQ_inn⟩
    · cases h
  · -- field
    rename_i s x f ho
    simp only at ho; subst ho
    split at h
    · rename_i l hx
      split at h
      · rename_i q hq
        simp only [Tree.run, Option.some.injEq] at h; subst h
        obtain ⟨v, g1, g2⟩ := fieldA_run (w := w) hq (evalO_rep he hx)
        exact ⟨v, vrun g1, g2, fieldA_inn (evalO_inn hi hx) hq⟩
      · cases h
    · exact hgen h
  · -- nilCheck
    rename_i x ho
    simp only at ho; subst ho
    split at h
    · rename_i c hx
      cases hp : isPtr c with
      | true =>
        rw [hp] at h
        simp only [cond_true, Tree.run, Option.some.injEq] at h; subst h
        have hr := evalO_rep he hx
        obtain ⟨b, hb⟩ := isPtr_rep hp hr
        refine ⟨_, ?_, hr, evalO_inn hi hx⟩
        simp only [execOp, hb, Sem.run_pure]
      | false =>
        rw [hp] at h
        simp only [cond_false] at h
        split at h
        · simp only [Tree.run, Option.some.injEq] at h; subst h
          have hr := evalO_rep he hx
          obtain ⟨vs, g1, g2⟩ := hr
          refine ⟨_, ?_, ⟨vs, g1, g2⟩, evalO_inn hi hx⟩
          rename_i g _
          cases hb : isFn g with
          | true => rw [cloV_fn hb] at g2; simp only [execOp, g2, Sem.run_pure]
          | false => rw [cloV_ifc hb] at g2; simp only [execOp, g2, Sem.run_pure]
        · exact hgen h
    · exact hgen h
  · -- index
    rename_i t x i ho
    simp only at ho; subst ho
    split at h
    · rename_i q c hx hc
      split at h
      · rename_i n hn
        obtain ⟨y, hy, h⟩ := Tree.run_bind_some h
        simp only [Tree.run, Option.some.injEq] at h; subst h
        obtain ⟨k, hk⟩ := intOf_rep hn (evalO_rep he hc)
        obtain ⟨v, g1, g2, g3⟩ := indexT_run (D := D) (w := w) hy (evalO_rep he hx) (evalO_inn hi hx) k
        exact ⟨v, vrun (by rw [hk]; exact g1), g2, g3⟩
      · cases h
    · cases h
  · -- indexAddr
    rename_i t x i ho
    simp only at ho; subst ho
    split at h
    · rename_i c d hx hd
      split at h
      · rename_i n hn
        obtain ⟨y, hy, rfl⟩ := liftC_run h
        obtain ⟨k, hk⟩ := intOf_rep hn (evalO_rep he hd)
        obtain ⟨v, g1, g2, g3⟩ := idxAddrT_run hs hy (evalO_rep he hx) (evalO_inn hi hx) k
        exact ⟨v, vrun (by rw [hk]; exact g1), g2, g3⟩
      · cases h
    · cases h
  · -- pick
    rename_i c x y ho
    simp only at ho; subst ho
    split at h
    · rename_i b u v hc hx hy
      simp only [Tree.run, Option.some.injEq] at h; subst h
      have e1 : a.eval c = _ := evalO_rep he hc
      have e2 : a.eval x = _ := evalO_rep he hx
      have e3 : a.eval y = _ := evalO_rep he hy
      refine ⟨_, ?_, rfl, trivial⟩
      cases b <;> simp [execOp, e1, e2, e3, asBool]
    · rename_i b u v _ hc hx hy
      have e1 : a.eval c = _ := evalO_rep he hc
      simp only [Tree.run] at h
      cases b
      · simp only [cond_false, Option.some.injEq] at h; subst h
        exact ⟨_, by simp [execOp, e1, asBool], evalO_rep he hy, evalO_inn hi hy⟩
      · simp only [cond_true, Option.some.injEq] at h; subst h
        exact ⟨_, by simp [execOp, e1, asBool], evalO_rep he hx, evalO_inn hi hx⟩
    · cases h
  · -- binOp
    rename_i op' t x y ty ho
    simp only at ho; subst ho
    split at h
    · rename_i xs ys hx hy
      split at h
      · rename_i b hb
        simp only [Tree.run, Option.some.injEq] at h; subst h
        exact ⟨_, vrun (cmpA_run hb (evalO_rep he hx) (evalO_rep he hy) x y w), rfl, trivial⟩
      · cases h
    · rename_i u v hx hy
      exact Yl.next (arith_run h (evalO_rep he hx) (evalO_rep he hy) x y w fun h => nilCmp_run h (evalO_rep he hx) (evalO_rep he hy) x y w fun h => Yl.back (hgen h))
    · exact hgen h
  · -- unOp
    rename_i op' t x ho
    simp only at ho; subst ho
    split at h
    · rename_i u hx
      exact Yl.next (unW_run h (evalO_rep he hx) w fun h => Yl.back (hgen h))
    · exact hgen h
  · -- convert
    rename_i src dst' x ho
    simp only at ho; subst ho
    split at h
    · rename_i u hx
      exact Yl.next (convW_run h (evalO_rep he hx) w fun h => Yl.back (hgen h))
    · exact hgen h
  · -- slice
    rename_i t x lo hi' mx ho
    simp only at ho; subst ho
    split at h
    · rename_i c lo1 hi1 mx1 hx hlo hhi hmx
      obtain ⟨c', hc', rfl⟩ := liftC_run h
      obtain ⟨v, g1, g2, g3⟩ := sliceT_run hs hc' (evalO_rep he hx) (evalO_inn hi hx) (optI_val he hlo) (optI_val he hhi) (optI_val he hmx) fun hg => by
        obtain ⟨v, k1, k2⟩ := genC_run (D := D) hg he w
        obtain ⟨v', j1, j2, j3⟩ := Yl.back (av := AV.c c') ⟨v, k1, k2⟩
        exact ⟨v', j1, j2, j3⟩
      exact ⟨v, vrun g1, g2, g3⟩
    · cases h
  · -- builtins
    rename_i c ho
    simp only at ho; subst ho
    split at h
    · rename_i b x hcal hargs
      split at h
      · rename_i u hx
        have ha : c.args.map a.eval = #[a.eval x] := by
          apply Array.ext'
          rw [Array.toList_map, hargs]; rfl
        simp only [execOp, resolve, hcal, Sem.run_bind, Sem.run_pure, Result.andThen_ok, invoke, ha] at hgen ⊢
        exact lenT_run hs h (evalO_rep he hx) _ _ hgen
      · exact hgen h
    · rename_i b x y hcal hargs
      split at h
      · rename_i u v hx hy
        have ha : c.args.map a.eval = #[a.eval x, a.eval y] := by
          apply Array.ext'
          rw [Array.toList_map, hargs]; rfl
        simp only [execOp, resolve, hcal, Sem.run_bind, Sem.run_pure, Result.andThen_ok, invoke, ha] at hgen ⊢
        exact mmW_run h (evalO_rep he hx) (evalO_rep he hy) _ _ _ w hgen
      · exact hgen h
    · exact hgen h
  · -- build
    rename_i t parts ho
    simp only at ho; subst ho
    split at h
    · rename_i ps hps
      split at h
      · rename_i x hx
        simp only [Tree.run, Option.some.injEq] at h; subst h
        obtain ⟨v, g1, g2⟩ := buildA_run hx (evalParts_rep he hps) w
        have h1 : (parts.map fun (p : Nat × Operand) => (p.1, a.eval p.2)) = (parts.toList.map fun (p : Nat × Operand) => (p.1, a.eval p.2)).toArray := by
          apply Array.ext'; simp
        refine ⟨v, vrun ?_, g2, buildA_inn hx (evalParts_inn hi hps)⟩
        rw [← h1] at g1
        exact g1
      · cases h
    · cases h
  · -- extract
    rename_i x i ho
    simp only at ho; subst ho
    split at h
    · rename_i l hx
      split at h
      · rename_i q hq
        simp only [Tree.run, Option.some.injEq] at h; subst h
        rw [nth_eq] at hq
        obtain ⟨vs, g1, g2⟩ := (evalO_rep he hx : AV.rep F r (.t l) (a.eval x))
        obtain ⟨v, k1, k2⟩ := partsRep_get g1 i q hq
        exact ⟨v, by simp [execOp, g2, Instr.extract, k1], k2, (evalO_inn hi hx : AV.inn D (.t l)) q (List.mem_of_getElem? hq)⟩
      · cases h
    · exact hgen h
  · -- makeFunc
    rename_i f first captured ho
    simp only at ho; subst ho
    cases hf : (Nat.blt f 1000000 && Nat.blt first.size 1000) with
    | false => rw [hf] at h; cases h
    | true =>
      rw [hf] at h
      simp only [cond_true] at h
      simp only [Bool.and_eq_true] at hf
      split at h
      · rename_i caps hcaps
        simp only [Tree.run, Option.some.injEq] at h; subst h
        have h1 := capsOf_rep he hcaps
        have h3 : f < 1000000 := Nat.le_of_ble_eq_true hf.1
        have h9 : first.size < 1000 := Nat.le_of_ble_eq_true hf.2
        have h10 : isFn (f + 1000000 * first.size) = true := Nat.ble_eq_true_of_le (by have h11 : @LT.lt Nat _ f 1000000 := h3; unfold ifcB; omega)
        have h5 : fnO (f + 1000000 * first.size) = f := (Nat.add_mul_mod_self_left f 1000000 first.size).trans (Nat.mod_eq_of_lt h3)
        have h6 : bdO (f + 1000000 * first.size) = first.size := (Nat.add_mul_div_left f first.size (by decide : 0 < 1000000)).trans (by rw [Nat.div_eq_of_lt h3, Nat.zero_add])
        refine ⟨_, ?_, ⟨_, h1, rfl⟩, capsOf_inn hi hcaps⟩
        have h4 : captured.map a.eval = (captured.toList.map a.eval).toArray := by apply Array.ext'; simp
        have h7 : first.map a.eval = (first.toList.map a.eval).toArray := by apply Array.ext'; simp
        have h8 : first.size = (first.toList.map a.eval).length := by simp
        rw [cloV_fn h10, h5, h6, List.map_append, List.take_append_of_le_length (by omega), List.drop_append_of_le_length (by omega), List.take_of_length_le (by omega), List.drop_of_length_le (by omega), List.nil_append]
        simp [execOp, Instr.makeFunc, h4, h7]
      · cases h
  · exact hgen h
end
end Go.Sz
