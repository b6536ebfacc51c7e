/-
  A symbolic machine for one call, with rows of any length: what is read.
-/
import Derived.Test.YtoljppjibhnndaaSzD
namespace Go.Sz
open Go Go.RowKit Go.Sy
set_option linter.unusedVariables false
set_option linter.unusedSimpArgs false
set_option linter.constructorNameAsVariable false

/-! ### A cell at an index -/
def gath (l : List Cell) (sz : Nat) : Nat → Nat → Option (List Cell)
  | 0, _ => some []
  | n + 1, pos => match nth l pos, gath l sz n (pos + sz) with
    | some c, some cs => some (c :: cs)
    | _, _ => none

theorem gath_spec {l : List Cell} {sz : Nat} : ∀ {n pos : Nat} {cs : List Cell}, gath l sz n pos = some cs → cs.length = n ∧ ∀ i, i < n → l[pos + i * sz]? = cs[i]?
  | 0, pos, cs, h => by simp [gath] at h; subst h; exact ⟨rfl, fun i hi => by omega⟩
  | n + 1, pos, cs, h => by
    simp only [gath] at h
    split at h
    · rename_i c cs' hc hcs
      injection h with h; subst h
      obtain ⟨h1, h2⟩ := gath_spec hcs
      refine ⟨by simp [h1], fun i hi => ?_⟩
      cases i with
      | zero => rw [nth_eq] at hc; simpa using hc
      | succ i =>
        rw [List.getElem?_cons_succ, ← h2 i (by omega)]
        congr 1
        rw [Nat.add_mul]; omega
    · cases h

def allW (k : IntKind) : List Cell → Option (List (BitVec k.bits))
  | [] => some []
  | c :: l => match wOf k c, allW k l with
    | some x, some xs => some (x :: xs)
    | _, _ => none
def allI (k : IntKind) : List Cell → Option (List Int)
  | [] => some []
  | .v (.int k' n) :: l => if k' = k then match allI k l with
      | some xs => some (n :: xs)
      | none => none
    else none
  | _ => none
def allB : List Cell → Option (List Bool)
  | [] => some []
  | .v (.bool n) :: l => match allB l with
      | some xs => some (n :: xs)
      | none => none
  | _ => none
def allS : List Cell → Option (List ByteArray)
  | [] => some []
  | .v (.string n) :: l => match allS l with
      | some xs => some (n :: xs)
      | none => none
  | _ => none
def dOf (ts : Tys) : Cell → Option (List ts.den)
  | .d ts' l => toL ts l
  | .v (.slice none 0 0) => some []
  | _ => none
def allD (ts : Tys) : List Cell → Option (List (List ts.den))
  | [] => some []
  | c :: l => match dOf ts c, allD ts l with
    | some x, some xs => some (x :: xs)
    | _, _ => none

def selC (cs : List Cell) (idx : Nat) : Option Cell := match cs with
  | .w k x :: l => match allW k (.w k x :: l) with
    | some xs => some (.w k (xs.getD idx 0#k.bits))
    | none => none
  | .v (.int k n) :: l => match allI k (.v (.int k n) :: l) with
    | some xs => some (.v (.int k (xs.getD idx 0)))
    | none => none
  | .v (.bool n) :: l => match allB (.v (.bool n) :: l) with
    | some xs => some (.v (.bool (xs.getD idx false)))
    | none => none
  | .v (.string n) :: l => match allS (.v (.string n) :: l) with
    | some xs => some (.v (.string (xs.getD idx ByteArray.empty)))
    | none => none
  | .d ts n :: l => match allD ts (.d ts n :: l) with
    | some xs => some (.d ts (xs.getD idx []))
    | none => none
  | _ => none

section
variable {P : Program} {F : Frag} {r : Loc} {D : Nat → Prop} {w : World}

theorem toL_rep {ts ts' : Tys} {l : List ts.den} {l' : List ts'.den} (h : toL ts' l = some l') {u : Value} (hu : RepT F (.sl ts) l u) : RepT F (.sl ts') l' u := by
  unfold toL at h
  split at h
  · rename_i e
    have := Tys.eqb_eq e
    subst this
    injection h with h; subst h; exact hu
  · cases h
theorem repT_nil (ts : Tys) : RepT F (.sl ts) [] (.slice none 0 0) := by
  simp only [RepT]
  exact ⟨none, 0, rfl, Nat.le_refl _, Nat.zero_le _, fun h => absurd rfl h⟩
theorem dOf_rep {ts : Tys} {c : Cell} {l : List ts.den} (h : dOf ts c = some l) {u : Value} (hu : c.rep F r u) : RepT F (.sl ts) l u := by
  unfold dOf at h
  split at h
  · exact toL_rep h hu
  · injection h with h; subst h
    rw [show u = .slice none 0 0 from hu]
    exact repT_nil ts
  · cases h

theorem allW_rep {k : IntKind} : ∀ {cs : List Cell} {xs : List (BitVec k.bits)}, allW k cs = some xs → xs.length = cs.length ∧ ∀ (i : Nat) (c : Cell) (u : Value), cs[i]? = some c → c.rep F r u → u = .int k ((xs.getD i 0#k.bits).toNat : Int)
  | [], xs, h => by simp [allW] at h; subst h; exact ⟨rfl, fun i c u h => by simp at h⟩
  | c :: l, xs, h => by
    simp only [allW] at h
    split at h
    · rename_i x xs' hx hxs
      injection h with h; subst h
      obtain ⟨h1, h2⟩ := allW_rep hxs
      refine ⟨by simp [h1], fun i c' u hc hu => ?_⟩
      cases i with
      | zero => simp at hc; subst hc; simpa using wOf_rep hx hu
      | succ i => simpa using h2 i c' u (by simpa using hc) hu
    · cases h
theorem allI_rep {k : IntKind} : ∀ {cs : List Cell} {xs : List Int}, allI k cs = some xs → xs.length = cs.length ∧ ∀ (i : Nat) (c : Cell) (u : Value), cs[i]? = some c → c.rep F r u → u = .int k (xs.getD i 0)
  | [], xs, h => by simp [allI] at h; subst h; exact ⟨rfl, fun i c u h => by simp at h⟩
  | c :: l, xs, h => by
    unfold allI at h
    split at h
    · rename_i hh; cases hh
    · rename_i k' n l' hh
      injection hh with hh1 hh2; subst hh1 hh2
      split at h
      · rename_i hk; subst hk
        split at h
        · rename_i xs' hxs
          injection h with h; subst h
          obtain ⟨h1, h2⟩ := allI_rep hxs
          refine ⟨by simp [h1], fun i c' u hc hu => ?_⟩
          cases i with
          | zero => simp at hc; subst hc; simpa [Cell.rep] using hu
          | succ i => simpa using h2 i c' u (by simpa using hc) hu
        · cases h
      · cases h
    · cases h
theorem allB_rep : ∀ {cs : List Cell} {xs : List Bool}, allB cs = some xs → xs.length = cs.length ∧ ∀ (i : Nat) (c : Cell) (u : Value), cs[i]? = some c → c.rep F r u → u = .bool (xs.getD i false)
  | [], xs, h => by simp [allB] at h; subst h; exact ⟨rfl, fun i c u h => by simp at h⟩
  | c :: l, xs, h => by
    unfold allB at h
    split at h
    · rename_i hh; cases hh
    · rename_i n l' hh
      injection hh with hh1 hh2; subst hh1 hh2
      split at h
      · rename_i xs' hxs
        injection h with h; subst h
        obtain ⟨h1, h2⟩ := allB_rep hxs
        refine ⟨by simp [h1], fun i c' u hc hu => ?_⟩
        cases i with
        | zero => simp at hc; subst hc; simpa [Cell.rep] using hu
        | succ i => simpa using h2 i c' u (by simpa using hc) hu
      · cases h
    · cases h
theorem allS_rep : ∀ {cs : List Cell} {xs : List ByteArray}, allS cs = some xs → xs.length = cs.length ∧ ∀ (i : Nat) (c : Cell) (u : Value), cs[i]? = some c → c.rep F r u → u = .string (xs.getD i ByteArray.empty)
  | [], xs, h => by simp [allS] at h; subst h; exact ⟨rfl, fun i c u h => by simp at h⟩
  | c :: l, xs, h => by
    unfold allS at h
    split at h
    · rename_i hh; cases hh
    · rename_i n l' hh
      injection hh with hh1 hh2; subst hh1 hh2
      split at h
      · rename_i xs' hxs
        injection h with h; subst h
        obtain ⟨h1, h2⟩ := allS_rep hxs
        refine ⟨by simp [h1], fun i c' u hc hu => ?_⟩
        cases i with
        | zero => simp at hc; subst hc; simpa [Cell.rep] using hu
        | succ i => simpa using h2 i c' u (by simpa using hc) hu
      · cases h
    · cases h
theorem allD_rep {ts : Tys} : ∀ {cs : List Cell} {xs : List (List ts.den)}, allD ts cs = some xs → xs.length = cs.length ∧ ∀ (i : Nat) (c : Cell) (u : Value), cs[i]? = some c → c.rep F r u → RepT F (.sl ts) (xs.getD i []) u
  | [], xs, h => by simp [allD] at h; subst h; exact ⟨rfl, fun i c u h => by simp at h⟩
  | c :: l, xs, h => by
    simp only [allD] at h
    split at h
    · rename_i x xs' hx hxs
      injection h with h; subst h
      obtain ⟨h1, h2⟩ := allD_rep hxs
      refine ⟨by simp [h1], fun i c' u hc hu => ?_⟩
      cases i with
      | zero => simp at hc; subst hc; simpa using dOf_rep hx hu
      | succ i => simpa using h2 i c' u (by simpa using hc) hu
    · cases h

theorem selC_rep {cs : List Cell} {idx : Nat} {c : Cell} (h : selC cs idx = some c) {c' : Cell} (hc : cs[idx]? = some c') {u : Value} (hu : c'.rep F r u) : c.rep F r u ∧ c.inn D := by
  unfold selC at h
  split at h
  · split at h
    · rename_i xs hxs
      injection h with h; subst h
      exact ⟨(allW_rep hxs).2 idx c' u hc hu, trivial⟩
    · cases h
  · split at h
    · rename_i xs hxs
      injection h with h; subst h
      exact ⟨(allI_rep hxs).2 idx c' u hc hu, trivial⟩
    · cases h
  · split at h
    · rename_i xs hxs
      injection h with h; subst h
      exact ⟨(allB_rep hxs).2 idx c' u hc hu, trivial⟩
    · cases h
  · split at h
    · rename_i xs hxs
      injection h with h; subst h
      exact ⟨(allS_rep hxs).2 idx c' u hc hu, trivial⟩
    · cases h
  · split at h
    · rename_i xs hxs
      injection h with h; subst h
      exact ⟨(allD_rep hxs).2 idx c' u hc hu, trivial⟩
    · cases h
  · cases h
end

/-- One way for each index. -/
def selT : List Cell → Nat → Nat → Tree Cell
  | [], _, _ => .fail
  | c :: cs, idx, k => .ite (Nat.beq idx k) (.ret c) (selT cs idx (k + 1))

theorem selT_run : ∀ {cs : List Cell} {idx k : Nat} {c : Cell}, (selT cs idx k).run = some c → ∃ m, idx = k + m ∧ cs[m]? = some c
  | [], _, _, _, h => by cases h
  | c' :: cs, idx, k, c, h => by
    simp only [selT, Tree.run] at h
    cases hb : Nat.beq idx k with
    | true =>
      rw [hb] at h
      simp only [cond_true, Option.some.injEq] at h; subst h
      exact ⟨0, by rw [Nat.eq_of_beq_eq_true hb]; rfl, rfl⟩
    | false =>
      rw [hb] at h
      simp only [cond_false] at h
      obtain ⟨m, h1, h2⟩ := selT_run h
      exact ⟨m + 1, by omega, by simpa using h2⟩

def selL (l : List Cell) (sz n idx : Nat) : Nat → Nat → Option (List Cell)
  | 0, _ => some []
  | m + 1, pos => match gath l sz n pos with
    | some cs => match selC cs idx, selL l sz n idx m (pos + 1) with
      | some c, some r => some (c :: r)
      | _, _ => none
    | none => none

theorem selL_spec {F : Frag} {r : Loc} {D : Nat → Prop} {l : List Cell} {vs : List Value} (hl : cellsRep F r l vs) {sz n idx : Nat} (hi : idx < n) : ∀ {m pos : Nat} {cs : List Cell}, selL l sz n idx m pos = some cs →
    cs.length = m ∧ (∀ c ∈ cs, c.inn D) ∧ ∃ us, cellsRep F r cs us ∧ ∀ k u, us[k]? = some u → vs[pos + idx * sz + k]? = some u
  | 0, pos, cs, h => by simp [selL] at h; subst h; exact ⟨rfl, fun c hc => (by cases hc), [], trivial, fun k u h => by simp at h⟩
  | m + 1, pos, cs, h => by
    simp only [selL] at h
    split at h
    · rename_i g hg
      split at h
      · rename_i c rs hc hr
        injection h with h; subst h
        obtain ⟨h1, h2, us, h3, h4⟩ := selL_spec (D := D) hl hi hr
        obtain ⟨g1, g2⟩ := gath_spec hg
        have hgi : g[idx]? = some (g[idx]'(by omega)) := List.getElem?_eq_getElem _
        have hli := (g2 idx hi).trans hgi
        obtain ⟨v, hv, hvr⟩ := cellsRep_get hl _ _ hli
        obtain ⟨k1, k2⟩ := selC_rep (D := D) hc hgi hvr
        refine ⟨by simp [h1], fun x hx => ?_, v :: us, ⟨k1, h3⟩, fun k u hu => ?_⟩
        · rcases List.mem_cons.1 hx with rfl | hx
          · exact k2
          · exact h2 x hx
        · cases k with
          | zero => simp at hu; subst hu; simpa using hv
          | succ k =>
            have := h4 k u (by simpa using hu)
            rw [← this]; congr 1; omega
      · cases h
    · cases h

/-! ### Loads -/
section
variable {P : Program} {F : Frag} {r : Loc} {D : Nat → Prop} {w : World}

theorem loadVar_many {t : TypeId} {b o n : Nat} (hagg : pureSem P (isAgg t) = some true) (hn : pureSem P (sizeOf t) = some n) {us : List Value} (hl : us.length = n) (h : w.rangeAt b o us) :
    (loadVar t ⟨b, o, none⟩).run P w = .ok (.agg us.toArray) w := by
  unfold loadVar
  rw [Sem.run_bind, pureSem_run hagg]
  simp only [Result.andThen_ok, if_true, Sem.run_bind, pureSem_run hn]
  have := run_loadCells_list (P := P) w ⟨b, o, none⟩ us (fun i v hv => by rw [Addr.add_mid]; exact h i v hv)
  rw [hl] at this
  simp [this]

theorem loadVar_one {t : TypeId} {b o : Nat} (hagg : pureSem P (isAgg t) = some false) {u : Value} (h : w.cell? ⟨b, o, none⟩ = some u) : (loadVar t ⟨b, o, none⟩).run P w = .ok u w := by
  unfold loadVar
  rw [Sem.run_bind, pureSem_run hagg]
  simp [h]

/-- Cells that lie in memory. -/
theorem loadVar_part {t : TypeId} {b o : Nat} {l : List Cell} {vs : List Value} (hl : cellsRep F r l vs) (h : w.rangeAt b o vs) {off : Nat} {x : Part} (hx : partA P t l off = some x) :
    ∃ v, (loadVar t ⟨b, o + off, none⟩).run P w = .ok v w ∧ x.rep F r v := by
  unfold partA at hx
  split at hx
  · rename_i hagg
    split at hx
    · rename_i n hn
      split at hx
      · rename_i cs hcs
        injection hx with hx; subst hx
        obtain ⟨h1, h2⟩ := takeX_spec _ _ _ hcs
        have hr : cellsRep F r cs ((vs.drop off).take n) := by rw [h1]; exact cellsRep_take n (cellsRep_drop off hl)
        refine ⟨.agg ((vs.drop off).take n).toArray, loadVar_many hagg hn (by rw [cellsRep_length hr, h2]) (fun i v hv => ?_), _, hr, rfl⟩
        rw [List.getElem?_take] at hv
        split at hv
        · rw [List.getElem?_drop] at hv
          rw [Nat.add_assoc]; exact h _ _ hv
        · cases hv
      · cases hx
    · cases hx
  · rename_i hagg
    split at hx
    · rename_i c hc
      injection hx with hx; subst hx
      rw [nth_eq] at hc
      obtain ⟨v, hv, hr⟩ := cellsRep_get hl off c hc
      exact ⟨v, loadVar_one hagg (h off v hv), hr⟩
    · cases hx
  · cases hx
end

def loadT (P : Program) (H : Hf) (t : TypeId) : Cell → Tree Part
  | .p j off => match H j with
    | some (.lit l) => Tree.ofOpt (partA P t l off)
    | _ => .fail
  | .e j base n sz idx off => match H j with
    | some (.lit l) => match pureSem P (isAgg t) with
      | some false => match gath l sz n (base + off) with
        | some cs => match selC cs idx with
          | some c => .ret (.one c)
          | none => (selT cs idx 0).bind fun c => .ret (.one c)
        | none => .fail
      | some true => match pureSem P (sizeOf t) with
        | some m => match selL l sz n idx m (base + off) with
          | some cs => .ret (.many cs)
          | none => .fail
        | none => .fail
      | none => .fail
    | _ => .fail
  | .er j sz idx off => match H j with
    | some (.row ts l) => bif Nat.beq sz ts.len then Tree.ofOpt (partA P t (cellsOf ts (l.getD idx ts.dflt)) off) else .fail
    | _ => .fail
  | .q ts x => Tree.ofOpt (partA P t (cellsOf ts x) 0)
  | _ => .fail

structure Sees (F : Frag) (r : Loc) (D : Nat → Prop) (H : Hf) (w : World) : Prop where
  obs : ∀ j ob, H j = some ob → ObIs F r (r j) w ob
  scp : ∀ j ob, H j = some ob → ob.inn D
  fin : F.le (memF w)

theorem Mem.sees {w0 : World} {S : Nat → Nat → Prop} {R0 : Frag} {D : Nat → Prop} {H : Hf} {F : Frag} {r : Loc} {w : World} (h : Mem w0 S R0 D H F r w) : Sees F r D H w := ⟨h.obs, h.scp, h.fin⟩
theorem Sees.sub {F : Frag} {r : Loc} {D : Nat → Prop} {H H' : Hf} {w : World} (h : Sees F r D H w) (hs : ∀ j ob, H' j = some ob → H j = some ob) : Sees F r D H' w := ⟨fun j ob e => h.obs j ob (hs j ob e), fun j ob e => h.scp j ob (hs j ob e), h.fin⟩

section
variable {P : Program} {F : Frag} {r : Loc} {D : Nat → Prop} {w : World} {H : Hf}

theorem getD_get {α : Type} {l : List α} {i : Nat} (h : i < l.length) (d : α) : l[i]? = some (l.getD i d) := by
  rw [List.getElem?_eq_getElem h, List.getD_eq_getElem?_getD, List.getElem?_eq_getElem h]; rfl

/-- The elements of a row, or of a slice that nobody writes. -/
theorem elem_vals {G : Frag} (hG : G.le (memF w)) {b o : Nat} {ts : Tys} {x : ts.den} (h : RepC G F b o ts x) :
    ∃ vs : List Value, vs.length = ts.len ∧ w.rangeAt b o vs ∧ cellsRep F r (cellsOf ts x) vs ∧ ∀ v ∈ vs, v.oneCell' = true := by
  obtain ⟨vs, h1, h2, h3, h4⟩ := cellsOf_rep (r := r) h
  exact ⟨vs, h1, fun i v hv => hG _ _ _ (h2 i v hv), h3, h4⟩

theorem loadT_run (hs : Sees F r D H w) {t : TypeId} {c : Cell} {x : Part} (h : (loadT P H t c).run = some x) {u : Value} (hu : c.rep F r u) :
    ∃ v, (Instr.loadAt t u).run P w = .ok v w ∧ x.rep F r v ∧ x.inn D := by
  have hla : ∀ a : Addr, (Instr.loadAt t (.pointer (some a))).run P w = (loadVar t a).run P w := fun a => by
    simp only [Instr.loadAt, Instr.sureAddr, Sem.run_bind, Sem.run_pure, Result.andThen_ok]
  unfold loadT at h
  split at h
  · rename_i j off
    split at h
    · rename_i l hj
      rw [Tree.run_ofOpt] at h
      obtain ⟨vs, h1, h2, _, _⟩ := hs.obs j _ hj
      obtain ⟨v, h3, h4⟩ := loadVar_part h1 h2 h
      refine ⟨v, ?_, h4, partA_inn (hs.scp j _ hj) h⟩
      rw [show u = _ from hu, hla]; exact h3
    · cases h
  · rename_i j base n sz idx off
    obtain ⟨rfl, hi⟩ := hu
    split at h
    · rename_i l hj
      obtain ⟨vs, h1, h2, _, _⟩ := hs.obs j _ hj
      have hpos : (r j).o + (base + idx * sz + off) = (r j).o + (base + off + idx * sz) := by omega
      split at h
      · rename_i hagg
        split at h
        · rename_i cs hcs
          obtain ⟨g1, g2⟩ := gath_spec hcs
          have hgi : cs[idx]? = some (cs[idx]'(by omega)) := List.getElem?_eq_getElem _
          have hli := (g2 idx hi).trans hgi
          obtain ⟨v, hv, hvr⟩ := cellsRep_get h1 _ _ hli
          have hrun : (Instr.loadAt t (.pointer (some ⟨(r j).b, (r j).o + (base + idx * sz + off), none⟩))).run P w = .ok v w := by
            rw [hla, hpos]; exact loadVar_one hagg (h2 _ _ hv)
          split at h
          · rename_i c hc
            simp only [Tree.run, Option.some.injEq] at h; subst h
            obtain ⟨k1, k2⟩ := selC_rep (D := D) hc hgi hvr
            exact ⟨v, hrun, k1, k2⟩
          · obtain ⟨c, hc, h⟩ := Tree.run_bind_some h
            simp only [Tree.run, Option.some.injEq] at h; subst h
            obtain ⟨m, e1, e2⟩ := selT_run hc
            have : m = idx := by omega
            subst this
            rw [hgi] at e2; injection e2 with e2; subst e2
            exact ⟨v, hrun, hvr, hs.scp j _ hj _ (List.mem_of_getElem? hli)⟩
        · cases h
      · rename_i hagg
        split at h
        · rename_i m hm
          split at h
          · rename_i cs hcs
            simp only [Tree.run, Option.some.injEq] at h; subst h
            obtain ⟨k1, k2, us, k3, k4⟩ := selL_spec (D := D) h1 hi hcs
            refine ⟨.agg us.toArray, ?_, ⟨us, k3, rfl⟩, k2⟩
            rw [hla, hpos]
            refine loadVar_many hagg hm (by rw [cellsRep_length k3, k1]) (fun k v hv => ?_)
            have := h2 _ _ (k4 k v hv)
            rw [← this]; congr 2; omega
          · cases h
        · cases h
      · cases h
    · cases h
  · rename_i j sz idx off
    obtain ⟨rfl, a, n, cap, hv, hi⟩ := hu
    split at h
    · rename_i ts l hj
      cases hb : Nat.beq sz ts.len with
      | false => rw [hb] at h; cases h
      | true =>
        rw [hb] at h
        simp only [cond_true, Tree.run_ofOpt] at h
        have hsz := Nat.eq_of_beq_eq_true hb
        subst hsz
        rcases hs.obs j _ hj with ⟨h1, _⟩ | ⟨cap', h1, h2, h3, h4, h5⟩
        · rw [h1] at hv; injection hv with _ hv _; subst hv; omega
        · rw [h1] at hv; injection hv with _ hv _; subst hv
          have hx := h5 idx _ (getD_get hi ts.dflt)
          obtain ⟨vs, g1, g2, g3, _⟩ := elem_vals (r := r) (Frag.le_refl (memF w)) hx
          obtain ⟨v, h6, h7⟩ := loadVar_part g3 g2 h
          refine ⟨v, ?_, h7, partA_inn (cellsOf_inn D _ _) h⟩
          rw [hla, ← Nat.add_assoc]; exact h6
    · cases h
  · rename_i ts x'
    rw [Tree.run_ofOpt] at h
    obtain ⟨b, o, rfl, h1⟩ := hu
    obtain ⟨vs, g1, g2, g3, _⟩ := elem_vals (r := r) hs.fin h1
    obtain ⟨v, h6, h7⟩ := loadVar_part g3 g2 h
    exact ⟨v, by rw [hla]; exact h6, h7, partA_inn (cellsOf_inn D _ _) h⟩
  · cases h
end
end Go.Sz
