/-
  A symbolic machine for one call, with rows of any length: append.
  A symbolic machine for one call, with rows of any length: the operations that make or turn memory.
  A symbolic machine for one call, with rows of any length: variables, stores, copies.
-/
import Derived.Test.YtfbldjaepenfpaaGreatDoorSzK
noncomputable section
namespace Go.Sz
open Go Go.RowKit Go.Sy
set_option linter.unusedVariables false
set_option linter.unusedSimpArgs false
set_option linter.constructorNameAsVariable false
def isSlOrStr : TypeDesc → Bool
  | .slice _ => true
  | .string => true
  | _ => false
section
variable {P : Program}
theorem append_room (t1 t2 ty e : TypeId) (i : TypeInfo) (d2 : TypeDesc) (ht : P.underlying t1 = some (.slice e)) (hi : P.info? e = some i) (ht2 : P.underlying t2 = some d2) (hd : isSlOrStr d2 = true)
    (w : World) (b o n cap m : Nat) (x : Value) (vs : List Value) (hx : Reads P w i.size m x vs) (hroom : n + m ≤ cap) (h1 : ∀ u ∈ vs, u.oneCell' = true) (hth : w.there b (o + n * i.size) vs.length) :
    (Builtin.append_ #[t1, t2] ty #[.slice (some ⟨b, o, none⟩) n cap, x]).run P w = .ok (.slice (some ⟨b, o, none⟩) (n + m) cap) (w.setCells b (o + n * i.size) vs) := by
  have hl := hx.1
  have hst := run_storeCells_cells (P := P) b (o + n * i.size) vs 0 w (fun j hj => by simpa using (hth j hj).1) (fun j hj => by simpa using (hth j hj).2) h1
  simp only [Nat.add_zero] at hst
  have hf' := hx.full w rfl
  cases d2 <;> first | (simp [isSlOrStr] at hd; done) | simp [Builtin.append_, run_underlying ht, run_underlying ht2, sizeOf, typeInfo, hi, hl, hroom, hf', Addr.add_mid, hst]
theorem append_room_nil (t1 t2 ty e : TypeId) (i : TypeInfo) (d2 : TypeDesc) (ht : P.underlying t1 = some (.slice e)) (hi : P.info? e = some i) (ht2 : P.underlying t2 = some d2) (hd : isSlOrStr d2 = true)
    (w : World) (m : Nat) (x : Value) (vs : List Value) (hx : Reads P w i.size m x vs) (hm : m = 0) :
    (Builtin.append_ #[t1, t2] ty #[.slice none 0 0, x]).run P w = .ok (.slice none 0 0) w := by
  subst hm
  have hl := hx.1
  have hf' := hx.full w rfl
  cases d2 <;> first | (simp [isSlOrStr] at hd; done) | simp [Builtin.append_, run_underlying ht, run_underlying ht2, sizeOf, typeInfo, hi, hl, hf']
set_option maxHeartbeats 2000000 in
theorem append_grow (t1 t2 ty e : TypeId) (i : TypeInfo) (z : Value) (d2 : TypeDesc) (ht : P.underlying t1 = some (.slice e)) (hi : P.info? e = some i) (hz : i.zero = some z) (ht2 : P.underlying t2 = some d2) (hd : isSlOrStr d2 = true)
    (w : World) (a : Option Addr) (n cap m : Nat) (x : Value) (vs olds : List Value) (hx : Reads P w i.size m x vs) (ho : Reads P w i.size n (.slice a n cap) olds) (hg : cap < n + m) (h63 : n + m ≤ maxLen) (hb : (n + m) * i.bytes ≤ 140737488355328) :
    (Builtin.append_ #[t1, t2] ty #[.slice a n cap, x]).run P w = .ok (.slice (some ⟨w.heap.size, 0, none⟩) (n + m) (grownCap w (n + m) cap e))
      (w.drew.alloc (.cells (olds.toArray ++ vs.toArray ++ Builtin.zeroCells z.cells (grownCap w (n + m) cap e - (n + m))) e)) := by
  have hl := hx.1
  have hf' := hx.full w.drew rfl
  have ho' := ho.full w.drew rfl
  have hfit := growslice_fits hg hb
  have hn : ¬ (n + m ≤ cap) := by omega
  have h63' : ¬ (9223372036854775807 < ((n : Int) + (m : Int))) := by simp only [maxLen] at h63; omega
  have h48' : ¬ (281474976710656 < Builtin.nextslicecap (n + m) cap * i.bytes) := by omega
  cases d2 <;> first | (simp [isSlOrStr] at hd; done) | (simp [Builtin.append_, run_underlying ht, run_underlying ht2, sizeOf, typeInfo, zeroValue, hi, hz, hl, hn, h63', h48', Question.forced, hf', ho', newRow, grownCap]; congr 2; apply Array.ext'; simp)
end
/-! ### append -/
def bytesOk (n bytes : Nat) : Bool := Nat.ble (n * bytes) 140737488355328
structure Eff where
  res : Option AV
  ups : List (Nat × Ob)
  nn : Nat
def baseT (H : Hf) (ts : Tys) : Cell → Tree (List ts.den × List Nat)
  | .h j => match H j with
    | some (.row _ l) => match toL ts l with
      | some l' => .ret (l', [j])
      | none => .fail
    | _ => .fail
  | .hs j sz lo n mx => match H j with
    | some (.row _ l) => match toL ts l with
      | some l' => .ck (Nat.ble (lo + n) l'.length && (Nat.beq sz ts.len && (match mx with | none => true | some m => Nat.ble (lo + n) m && Nat.ble m l'.length))) (.ret (cut l' lo (lo + n), [j]))
      | none => .fail
    | _ => .fail
  | .v (.slice none 0 0) => .ret ([], [])
  | _ => .fail
structure Base (F : Frag) (r : Loc) (H : Hf) (w : World) (P : Program) (ts : Tys) (l : List ts.den) (js : List Nat) (a : Option Addr) (b o cap : Nat) (vs : List Value) : Prop where
  vals : RowVals F ts l vs
  reads : Reads P w ts.len l.length (.slice a l.length cap) vs
  non : a = none → l = [] ∧ cap = 0
  ptr : a ≠ none → a = some ⟨b, o, none⟩
  le : l.length ≤ cap
  max : cap ≤ maxLen
  there : a ≠ none → w.there b o (cap * ts.len)
  at_ : a ≠ none → w.rangeAt b o vs
  foot : a ≠ none → ∀ p, o ≤ p → p < o + cap * ts.len → ∃ j ob, j ∈ js ∧ H j = some ob ∧ ob.foot (r j) b p
  jsH : ∀ j ∈ js, ∃ ob, H j = some ob
section
variable {P : Program} {F : Frag} {r : Loc} {D : Nat → Prop} {w : World} {H : Hf}
theorem baseT_run (hs : Sees F r D H w) {ts : Tys} {c : Cell} {l : List ts.den} {js : List Nat} (h : (baseT H ts c).run = some (l, js)) {u : Value} (hu : c.rep F r u) :
    ∃ a b o cap vs, u = .slice a l.length cap ∧ Base F r H w P ts l js a b o cap vs := by
  unfold baseT at h
  split at h
  · rename_i j
    split at h
    · rename_i ts' l0 hj
      split at h
      · rename_i l' hl
        simp only [Tree.run, Option.some.injEq, Prod.mk.injEq] at h
        obtain ⟨rfl, rfl⟩ := h
        obtain ⟨e, _, e3⟩ := toL_vals hl
        subst e
        obtain ⟨vs, g1, g2⟩ := row_vals (hs.obs j _ hj)
        have g1' := rowVals_cast hl g1
        rcases row_nil (hs.obs j _ hj) with ⟨k1, k2⟩ | ⟨cap, k1, k2, k3, k4⟩
        · have hl0 : l' = [] := List.length_eq_zero_iff.1 (by rw [e3, k2]; rfl)
          refine ⟨none, 0, 0, 0, vs, by rw [hu.1, k1, hl0]; rfl, g1', ?_, fun _ => ⟨hl0, rfl⟩, fun h => absurd rfl h, by rw [hl0]; simp, Nat.zero_le _, fun h => absurd rfl h, fun h => absurd rfl h, fun h => absurd rfl h, fun j' hj' => ?_⟩
          · rw [hl0]
            exact reads_slice (b := (r j).b) (o := (r j).o) (by rw [g1.len, k2]) (fun h => absurd (by simp) h) (fun i v hv => g2 i v hv)
          · simp at hj'; subst hj'; exact ⟨_, hj⟩
        · refine ⟨_, (r j).b, (r j).o, cap, vs, by rw [hu.1, k1, e3], g1', ?_, fun h => (by cases h), fun _ => rfl, by rw [e3]; exact k2, k3, fun _ => k4, fun _ => g2, fun _ p h1 h2 => ⟨j, _, by simp, hj, _, _, k1, rfl, h1, h2⟩, fun j' hj' => ?_⟩
          · rw [e3]
            exact reads_slice g1.len (fun _ => rfl) (fun i v hv => g2 i v hv)
          · simp at hj'; subst hj'; exact ⟨_, hj⟩
      · cases h
    · cases h
  · rename_i j sz lo n mx
    split at h
    · rename_i ts' l0 hj
      split at h
      · rename_i l' hl
        obtain ⟨hck, h⟩ := Tree.run_ck h
        simp only [Tree.run, Option.some.injEq, Prod.mk.injEq] at h
        obtain ⟨rfl, rfl⟩ := h
        simp only [Bool.and_eq_true] at hck
        have hle : lo + n ≤ l'.length := Nat.le_of_ble_eq_true hck.1
        have hsz : sz = ts.len := Nat.eq_of_beq_eq_true hck.2.1
        obtain ⟨e, _, e3⟩ := toL_vals hl
        subst e
        obtain ⟨vs, g1, g2⟩ := row_vals (hs.obs j _ hj)
        have g1' := rowVals_cast hl g1
        have hlen : (cut l' lo (lo + n)).length = n := by simp [cut]; omega
        have hc := g1'.cut (lo := lo) (hi := lo + n) (by omega) hle
        rcases row_nil (hs.obs j _ hj) with ⟨k1, k2⟩ | ⟨cap, k1, k2, k3, k4⟩
        · have h0 : l'.length = 0 := by rw [e3, k2]; rfl
          have hn : n = 0 := by omega
          have hlo : lo = 0 := by omega
          have hm : mx.getD 0 = 0 := by
            cases mx with
            | none => rfl
            | some m =>
              have h2 := hck.2.2
              simp only [Bool.and_eq_true] at h2
              have : m ≤ l'.length := Nat.le_of_ble_eq_true h2.2
              simp; omega
          have hcut : cut l' lo (lo + n) = [] := List.length_eq_zero_iff.1 (by rw [hlen, hn])
          refine ⟨none, 0, 0, 0, _, ?_, hc, ?_, fun _ => ⟨hcut, rfl⟩, fun h => absurd rfl h, by rw [hcut]; simp, Nat.zero_le _, fun h => absurd rfl h, fun h => absurd rfl h, fun h => absurd rfl h, fun j' hj' => ?_⟩
          · rw [hu.1, k1, hlen, hn, hlo]; simp [subHdr, hm]
          · rw [hlen, hn]
            have hvs0 : ((vs.drop (lo * ts'.len)).take ((lo + n - lo) * ts'.len)) = [] := List.length_eq_zero_iff.1 (by rw [hc.len, hlen, hn]; simp)
            rw [hn] at hvs0
            rw [hvs0]
            exact reads_slice (b := 0) (o := 0) (by simp) (fun h => absurd (by simp) h) (fun i v hv => by simp at hv)
          · simp at hj'; subst hj'; exact ⟨_, hj⟩
        · have hM : lo + n ≤ mx.getD cap ∧ mx.getD cap ≤ cap := by
            cases mx with
            | none => simp; omega
            | some m =>
              have h2 := hck.2.2
              simp only [Bool.and_eq_true] at h2
              have h3 : lo + n ≤ m := Nat.le_of_ble_eq_true h2.1
              have h4 : m ≤ l'.length := Nat.le_of_ble_eq_true h2.2
              simp; omega
          generalize hMd : mx.getD cap = M at hM
          have hu1 : u = .slice (if M = lo then some ⟨(r j).b, (r j).o, none⟩ else some ⟨(r j).b, (r j).o + lo * ts'.len, none⟩) n (M - lo) := by
            rw [hu.1, k1]
            simp only [subHdr, hMd, hsz, Option.map_some, Addr.add_mid]
          have hrange : ∀ i v, ((vs.drop (lo * ts'.len)).take ((lo + n - lo) * ts'.len))[i]? = some v → w.cell? ⟨(r j).b, (r j).o + lo * ts'.len + i, none⟩ = some v := fun i v hv => by
            have hi : i < (lo + n - lo) * ts'.len := by
              have := (List.getElem?_eq_some_iff.1 hv).1
              rw [List.length_take] at this
              exact Nat.lt_of_lt_of_le this (Nat.min_le_left _ _)
            rw [List.getElem?_take, if_pos hi, List.getElem?_drop] at hv
            have := g2 _ v hv
            rw [← Nat.add_assoc] at this; exact this
          by_cases hM0 : M = lo
          · have hn : n = 0 := by omega
            have hcut : cut l' lo (lo + n) = [] := List.length_eq_zero_iff.1 (by rw [hlen, hn])
            have hvs0 : ((vs.drop (lo * ts'.len)).take ((lo + n - lo) * ts'.len)) = [] := List.length_eq_zero_iff.1 (by rw [hc.len, hlen, hn]; simp)
            rw [if_pos hM0] at hu1
            refine ⟨_, (r j).b, (r j).o, 0, _, by rw [hu1, hlen, hM0]; simp, hc, ?_, fun h => (by cases h), fun _ => rfl, by rw [hcut]; simp, Nat.zero_le _, fun _ i hi => by simp at hi, fun _ => ?_, fun _ p h1 h2 => by simp at h2; omega, fun j' hj' => ?_⟩
            · rw [hlen, hvs0, hn]
              exact reads_slice (b := 0) (o := 0) (by simp) (fun h => absurd (by simp) h) (fun i v hv => by simp at hv)
            · rw [hvs0]; intro i v hv; simp at hv
            · simp at hj'; subst hj'; exact ⟨_, hj⟩
          · rw [if_neg hM0] at hu1
            have hmul : lo * ts'.len + (M - lo) * ts'.len ≤ cap * ts'.len := by rw [← Nat.add_mul]; exact Nat.mul_le_mul_right _ (by omega)
            refine ⟨_, (r j).b, (r j).o + lo * ts'.len, M - lo, _, by rw [hu1, hlen], hc, ?_, fun h => (by cases h), fun _ => rfl, by rw [hlen]; omega, by omega, fun _ i hi => ?_, fun _ => hrange, fun _ p h1 h2 => ⟨j, _, by simp, hj, _, _, k1, rfl, by omega, by omega⟩, fun j' hj' => ?_⟩
            · rw [hlen]
              exact reads_slice (by rw [hc.len, hlen]) (fun _ => rfl) hrange
            · have := k4 (lo * ts'.len + i) (by omega)
              rw [← Nat.add_assoc] at this; exact this
            · simp at hj'; subst hj'; exact ⟨_, hj⟩
      · cases h
    · cases h
  · simp only [Tree.run, Option.some.injEq, Prod.mk.injEq] at h
    obtain ⟨rfl, rfl⟩ := h
    refine ⟨none, 0, 0, 0, [], hu, RowVals.nil F ts, ?_, fun _ => ⟨rfl, rfl⟩, fun h => absurd rfl h, Nat.le_refl _, Nat.zero_le _, fun h => absurd rfl h, fun h => absurd rfl h, fun h => absurd rfl h, fun j' hj' => by cases hj'⟩
    exact reads_slice (b := 0) (o := 0) (by simp) (fun h => absurd (by simp) h) (fun i v h => by simp at h)
  · cases h
end
end Go.Sz
namespace Go.Sz
open Go Go.RowKit Go.Sy
set_option linter.unusedVariables false
set_option linter.unusedSimpArgs false
set_option linter.constructorNameAsVariable false
theorem Mem.monoD {w0 : World} {S : Nat → Nat → Prop} {R0 : Frag} {D D' : Nat → Prop} {H : Hf} {F : Frag} {r : Loc} {w : World} (h : Mem w0 S R0 D H F r w) (hD : ∀ j, D j → D' j) : Mem w0 S R0 D' H F r w :=
  ⟨h.obs, fun j ob hj => hD j (h.dom j ob hj), fun j ob hj => by
    have := h.scp j ob hj
    cases ob <;> first | trivial | exact fun c hc => Cell.inn_mono hD (this c hc) | exact fun c hc => Part.inn_mono hD (this c hc), h.disj, h.fin, h.fown, h.frame, h.fresh, h.base, h.prov⟩
def More (D : Nat → Prop) (nx n : Nat) (j : Nat) : Prop := D j ∨ (nx ≤ j ∧ j < nx + n)
structure After (w0 : World) (S : Nat → Nat → Prop) (R0 : Frag) (D : Nat → Prop) (H : Hf) (F : Frag) (r : Loc) (nx : Nat) (eff : Eff) (F' : Frag) (r' : Loc) (w' : World) (v : Value) : Prop where
  agree : Loc.agree D r r'
  le : F.le F'
  mem : Mem w0 S R0 (More D nx eff.nn) (updH eff.ups H) F' r' w'
  res : ∀ av, eff.res = some av → av.rep F' r' v ∧ av.inn (More D nx eff.nn)
section
variable {w0 : World} {S : Nat → Nat → Prop} {R0 : Frag} {D : Nat → Prop} {H : Hf} {F : Frag} {r : Loc} {w : World}
theorem Mem.newLit (h : Mem w0 S R0 D H F r w) {nx : Nat} (hnx : ¬ D nx) {cs : List Cell} (hcs : ∀ c ∈ cs, c.inn D) {vs : List Value} (hr : cellsRep F r cs vs) (h1 : ∀ v ∈ vs, v.oneCell' = true) (t : TypeId) :
    Mem w0 S R0 (fun j => D j ∨ j = nx) (updH [(nx, .lit cs)] H) F (locPut r nx ⟨w.heap.size, 0, undef⟩) (w.alloc (.cells vs.toArray t)) := by
  have hB : Below w.heap.size w (w.alloc (.cells vs.toArray t)) := (Below.refl _ _).alloc (Nat.le_refl _) _
  have ha := locPut_agree r hnx ⟨w.heap.size, 0, undef⟩
  have hl := cellsRep_length hr
  refine h.fresh' hnx (js := []) (fun j hj => by cases hj) (d := ⟨w.heap.size, 0, undef⟩) ?_ (fun c hc => Cell.inn_mono (fun _ h => .inl h) (hcs c hc)) (fun b o hfo => .inr ?_) ((Fr.of_below hB _))
  · refine ⟨vs, cellsRep_to (Frag.le_refl F) ha hcs hr, fun i v hv => ?_, fun i hi => ?_, h1⟩
    · simp [hv]
    · have : vs[i]? = some (vs[i]'(by omega)) := List.getElem?_eq_getElem _
      simp [this]
  · obtain ⟨rfl, _⟩ := hfo; exact Nat.le_refl _
theorem Mem.newRow (h : Mem w0 S R0 D H F r w) {nx : Nat} (hnx : ¬ D nx) {js : List Nat} (hjs : ∀ j ∈ js, D j) {ts : Tys} {l : List ts.den} {vs : List Value} (hv : RowVals F ts l vs) {arr : Array Value} {rest : List Value} (harr : arr.toList = vs ++ rest)
    {cap : Nat} (hsz : arr.size = cap * ts.len) (hc : l.length ≤ cap) (hm : cap ≤ maxLen) {w1 : World} (hw1 : w1.heap = w.heap) (hB : Below w.heap.size w w1) (e : TypeId) (fz : Nat × Nat) (hfz : arr.size ≤ fz.1 ∨ fz.1 = fz.2) :
    Mem w0 S R0 (fun j => D j ∨ j = nx) (updH ((nx, .row ts l) :: deads js) H) F (locPut r nx ⟨w.heap.size, 0, .slice (some ⟨w.heap.size, 0, none⟩) l.length cap⟩) (w1.alloc (.cells arr e fz)) := by
  have hB' : Below w.heap.size w (w1.alloc (.cells arr e fz)) := hB.alloc (by rw [hw1]; exact Nat.le_refl _) _
  have hh : (w1.alloc (.cells arr e fz)).heap[w.heap.size]? = some (.cells arr e fz) := by
    show (w1.heap.push _)[w.heap.size]? = _
    rw [hw1]; simp
  have hcell : ∀ i, (w1.alloc (.cells arr e fz)).cell? ⟨w.heap.size, i, none⟩ = arr[i]? := fun i => by simp [World.cell?, hh]
  have hfr : ∀ i, i < arr.size → (w1.alloc (.cells arr e fz)).frozen? ⟨w.heap.size, i, none⟩ = false := fun i hi => by
    obtain ⟨a, b⟩ := fz
    simp only [World.frozen?, hh]
    rcases hfz with h | h
    · simp only at h
      have : ¬ a ≤ i := by omega
      simp [this]
    · simp only at h; subst h
      simp
  refine h.fresh' hnx hjs (d := ⟨w.heap.size, 0, .slice (some ⟨w.heap.size, 0, none⟩) l.length cap⟩) (obIs_row hv hc hm (fun i hi => ?_) (fun i v hv' => ?_)) trivial (fun b o hfo => .inr ?_) (Fr.of_below hB' _)
  · simp only [Nat.zero_add]
    rw [hcell, hfr i (by omega)]
    exact ⟨by simp; omega, rfl⟩
  · simp only [Nat.zero_add]
    rw [hcell, ← Array.getElem?_toList, harr, List.getElem?_append_left (List.getElem?_eq_some_iff.1 hv').1]
    exact hv'
  · obtain ⟨n, c, _, rfl, _⟩ := hfo; exact Nat.le_refl _
end
theorem More_one {D : Nat → Prop} {nx j : Nat} (h : D j ∨ j = nx) : More D nx 1 j := by
  rcases h with h | rfl
  · exact .inl h
  · exact .inr ⟨Nat.le_refl _, by omega⟩
/-! ### append -/
def appendT (P : Program) (H : Hf) (nx : Nat) (tys : List TypeId) (c1 c2 : Cell) (ts : Tys) : Tree Eff :=
  match tys with
  | [t1, t2] => match P.underlying t1, P.underlying t2 with
    | some (.slice e), some d2 => match P.info? e with
      | some i => match i.zero with
        | some z => bif isSlOrStr d2 && (Nat.beq i.size ts.len && (Nat.beq z.cells.size i.size && Nat.blt 0 i.size)) then
            (baseT H ts c1).bind fun b => (contT H ts c2).bind fun xs =>
              .ck (bytesOk (b.1.length + xs.length) i.bytes && Nat.ble (b.1.length + xs.length) 140737488355328) (.ret ⟨some (AV.c (.h nx)), (nx, .row ts (b.1 ++ xs)) :: deads b.2, 1⟩)
          else .fail
        | none => .fail
      | none => .fail
    | _, _ => .fail
  | _ => .fail
section
variable {P : Program} {w0 : World} {S : Nat → Nat → Prop} {R0 : Frag} {D : Nat → Prop} {H Hr : Hf} {F : Frag} {r : Loc} {w : World}
theorem appendT_run (hs : ∀ j ob, Hr j = some ob → H j = some ob) (hm : Mem w0 S R0 D H F r w) {nx : Nat} {eff : Eff} (hnx : ∀ j, nx ≤ j → j < nx + eff.nn → ¬ D j) {tys : Array TypeId} {c1 c2 : Cell} {ts : Tys} 
    (h : (appendT P Hr nx tys.toList c1 c2 ts).run = some eff) {u1 u2 : Value} (hu1 : c1.rep F r u1) (hu2 : c2.rep F r u2) (ty : TypeId) :
    ∃ v w' r', (Builtin.append_ tys ty #[u1, u2]).run P w = .ok v w' ∧ After w0 S R0 D H F r nx eff F r' w' v := by
  have hsees := hm.sees.sub hs
  unfold appendT at h
  split at h
  · rename_i t1 t2 hty
    have hty' : tys = #[t1, t2] := by apply Array.ext'; rw [hty]
    subst hty'
    split at h
    · rename_i e d2 ht1 ht2
      split at h
      · rename_i i hi
        split at h
        · rename_i z hz
          cases hb : (isSlOrStr d2 && (Nat.beq i.size ts.len && (Nat.beq z.cells.size i.size && Nat.blt 0 i.size))) with
          | false => rw [hb] at h; cases h
          | true =>
            rw [hb] at h
            simp only [cond_true] at h
            simp only [Bool.and_eq_true] at hb
            obtain ⟨hd2, hsz, hzs, hpos⟩ := hb
            have hsz := Nat.eq_of_beq_eq_true hsz
            have hzs := Nat.eq_of_beq_eq_true hzs
            obtain ⟨⟨l, js⟩, hbase, h⟩ := Tree.run_bind_some h
            obtain ⟨xs, hcont, h⟩ := Tree.run_bind_some h
            obtain ⟨hck, h⟩ := Tree.run_ck h
            simp only [Tree.run, Option.some.injEq] at h; subst h
            simp only [Bool.and_eq_true] at hck
            have hbytes : (l.length + xs.length) * i.bytes ≤ 140737488355328 := Nat.le_of_ble_eq_true hck.1
            have hsmall : l.length + xs.length ≤ 140737488355328 := Nat.le_of_ble_eq_true hck.2
            obtain ⟨a, b, o, cap, olds, rfl, B⟩ := baseT_run (P := P) hsees hbase hu1
            obtain ⟨vs, hvs, hreads⟩ := contT_run (P := P) hsees hcont hu2
            rw [← hsz] at hreads
            have hBr := B.reads
            rw [← hsz] at hBr
            have hjs : ∀ j ∈ js, D j := fun j hj => by
              obtain ⟨ob, ho⟩ := B.jsH j hj
              exact hm.dom j ob (hs j ob ho)
            have hfoot : ∀ bb p, (∃ j ob, j ∈ js ∧ Hr j = some ob ∧ ob.foot (r j) bb p) → ∃ j ob0, j ∈ js ∧ H j = some ob0 ∧ ob0.foot (r j) bb p := fun bb p ⟨j, ob, h1, h2, h3⟩ => ⟨j, ob, h1, hs j ob h2, h3⟩
            have hvals : RowVals F ts (l ++ xs) (olds ++ vs) := B.vals.append hvs
            by_cases hroom : l.length + xs.length ≤ cap
            · cases a with
              | none =>
                obtain ⟨h0, h0'⟩ := B.non rfl
                have hx0 : xs.length = 0 := by omega
                have hx : xs = [] := List.length_eq_zero_iff.1 hx0
                have hl0 : l.length = 0 := by rw [h0]; rfl
                refine ⟨.slice none 0 0, w, locPut r nx ⟨0, 0, .slice none 0 0⟩, ?_, locPut_agree r (hnx nx (Nat.le_refl _) (Nat.lt_succ_self _)) _, Frag.le_refl F, ?_, fun av hav => ?_⟩
                · rw [hl0, h0']
                  exact append_room_nil t1 t2 ty e i d2 ht1 hi ht2 hd2 w xs.length u2 vs hreads hx0
                · refine (hm.fresh' (hnx nx (Nat.le_refl _) (Nat.lt_succ_self _)) hjs (d := ⟨0, 0, .slice none 0 0⟩) (ob := .row ts (l ++ xs)) (.inl ⟨rfl, by rw [h0, hx]; rfl⟩) trivial (fun b o hfo => ?_) (Fr.refl _ _)).monoD (fun j => More_one)
                  obtain ⟨n, c, hh, _⟩ := hfo; cases hh
                · injection hav with hav; subst hav
                  exact ⟨⟨by rw [locPut_self], rfl⟩, More_one (.inr rfl)⟩
              | some a =>
                have hp := B.ptr (by simp)
                injection hp with hp; subst hp
                have hlen : olds.length = l.length * ts.len := B.vals.len
                have hvl : vs.length = xs.length * ts.len := hvs.len
                have hmul : l.length * ts.len + xs.length * ts.len ≤ cap * ts.len := by rw [← Nat.add_mul]; exact Nat.mul_le_mul_right _ hroom
                have hth := B.there (by simp)
                have hth' : w.there b (o + l.length * i.size) vs.length := fun q hq => by
                  have := hth (l.length * ts.len + q) (by omega)
                  rw [← Nat.add_assoc] at this; rw [hsz]; exact this
                have hrun := append_room t1 t2 ty e i d2 ht1 hi ht2 hd2 w b o l.length cap xs.length u2 vs hreads hroom hvs.one hth'
                refine ⟨_, _, locPut r nx ⟨b, o, .slice (some ⟨b, o, none⟩) (l.length + xs.length) cap⟩, hrun, locPut_agree r (hnx nx (Nat.le_refl _) (Nat.lt_succ_self _)) _, Frag.le_refl F, ?_, fun av hav => ?_⟩
                · have hfr : Fr (fun b' o' => b' = b ∧ o + l.length * i.size ≤ o' ∧ o' < o + l.length * i.size + vs.length) w (w.setCells b (o + l.length * i.size) vs) := Fr.setCells w _ _ vs hth'
                  refine (hm.fresh' (hnx nx (Nat.le_refl _) (Nat.lt_succ_self _)) hjs (d := ⟨b, o, .slice (some ⟨b, o, none⟩) (l.length + xs.length) cap⟩) (ob := .row ts (l ++ xs)) ?_ trivial (fun bb p hfo => ?_) (hfr.mono fun bb p _ hh => ?_)).monoD (fun j => More_one)
                  · have hlen2 : (l ++ xs).length = l.length + xs.length := by simp
                    rw [← hlen2]
                    refine obIs_row hvals (by rw [hlen2]; exact hroom) B.max (World.there_setCells hth _ _ _) (fun q v hq => ?_)
                    rw [hsz]
                    by_cases hq' : q < olds.length
                    · rw [List.getElem?_append_left hq'] at hq
                      rw [World.cell?_setCells_out b vs _ w ⟨b, o + q, none⟩ (fun _ _ => .inl (by simp only []; omega))]
                      exact B.at_ (by simp) q v hq
                    · rw [List.getElem?_append_right (by omega)] at hq
                      have := World.rangeAt_setCells_same w b (o + l.length * i.size) vs hth' _ v hq
                      rw [hsz] at this
                      rw [← this]; congr 2; omega
                  · obtain ⟨n, c, hh, rfl, p1, p2⟩ := hfo
                    injection hh with _ _ hh; subst hh
                    exact .inl (hfoot _ _ (B.foot (by simp) p p1 p2))
                  · obtain ⟨rfl, p1, p2⟩ := hh
                    rw [hsz] at p1 p2
                    exact hfoot _ _ (B.foot (by simp) p (by omega) (by omega))
                · injection hav with hav; subst hav
                  exact ⟨⟨by rw [locPut_self], rfl⟩, More_one (.inr rfl)⟩
            · have h63 : l.length + xs.length ≤ maxLen := Nat.le_trans hsmall (by decide)
              have hrun := append_grow t1 t2 ty e i z d2 ht1 hi hz ht2 hd2 w a l.length cap xs.length u2 vs olds hreads hBr (by omega) h63 hbytes
              have hge := grownCap_ge w (l.length + xs.length) cap e
              have hcm := grownCap_le_maxLen w (l.length + xs.length) cap e h63
              generalize grownCap w (l.length + xs.length) cap e = gc at hrun hge hcm
              have hlen2 : (l ++ xs).length = l.length + xs.length := by simp
              rw [← hlen2] at hrun hge
              refine ⟨_, _, _, hrun, locPut_agree r (hnx nx (Nat.le_refl _) (Nat.lt_succ_self _)) _, Frag.le_refl F, (hm.newRow (hnx nx (Nat.le_refl _) (Nat.lt_succ_self _)) hjs hvals (rest := (Builtin.zeroCells z.cells (gc - (l ++ xs).length)).toList) (by simp) ?_ hge hcm (w1 := w.drew) rfl ((Below.refl _ _).drew) e (0, 0) (.inr rfl)).monoD (fun j => More_one), fun av hav => ?_⟩
              · simp only [Array.size_append, List.size_toArray, size_zeroCells, hzs, hsz, B.vals.len, hvs.len]
                rw [← Nat.add_mul, ← Nat.add_mul]
                congr 1
                simp at hge ⊢; omega
              · injection hav with hav; subst hav
                exact ⟨⟨by rw [locPut_self], rfl⟩, More_one (.inr rfl)⟩
        · cases h
      · cases h
    · cases h
  · cases h
end
end Go.Sz
namespace Go.Sz
open Go Go.RowKit Go.Sy
set_option linter.unusedVariables false
set_option linter.unusedSimpArgs false
set_option linter.constructorNameAsVariable false
/-! ### The cells of a type -/
def Tys.app : Tys → Tys → Tys
  | .nil, b => b
  | .cons t ts, b => .cons t (ts.app b)
def Tys.rept (ts : Tys) : Nat → Tys
  | 0 => .nil
  | n + 1 => ts.app (ts.rept n)
def flatFs (rec : TypeId → Option Tys) : List Field → Option Tys
  | [] => some .nil
  | f :: fs => match rec f.type, flatFs rec fs with
    | some a, some b => some (a.app b)
    | _, _ => none
def flatT (P : Program) : Nat → TypeId → Option Tys
  | 0, _ => none
  | n + 1, t => match P.underlying t with
    | some .bool => some (.cons .b .nil)
    | some (.int k) => some (.cons (bif k.signed then .i k else .w k) .nil)
    | some .string => some (.cons .str .nil)
    | some (.slice e) => match flatT P n e with
      | some ts => some (.cons (.sl ts) .nil)
      | none => none
    | some (.struct fs) => flatFs (flatT P n) fs.toList
    | some (.array m e) => match flatT P n e with
      | some ts => some (ts.rept m)
      | none => none
    | _ => none
def tsFor (P : Program) (H : Hf) (e : TypeId) : Cell → Option Tys
  | .h j => match H j with
    | some (.row ts _) => some ts
    | some (.frz ts _) => some ts
    | _ => none
  | .hs j _ _ _ _ => match H j with
    | some (.row ts _) => some ts
    | _ => none
  | .d ts _ => some ts
  | _ => flatT P 12 e
/-! ### A cell put at an index -/
def mergeC (b : Bool) : Cell → Cell → Option Cell
  | .w k x, c => match wOf k c with
    | some y => some (.w k (bif b then x else y))
    | none => none
  | .v (.int k x), c => match iOf k c with
    | some y => some (.v (.int k (bif b then x else y)))
    | none => none
  | .v (.bool x), c => match bOf c with
    | some y => some (.v (.bool (bif b then x else y)))
    | none => none
  | .v (.string x), c => match sOf c with
    | some y => some (.v (.string (bif b then x else y)))
    | none => none
  | .d ts x, c => match dOf ts c with
    | some y => some (.d ts (bif b then x else y))
    | none => none
  | .v (.slice none 0 0), c => match c with
    | .d ts y => some (.d ts (bif b then [] else y))
    | .v (.slice none 0 0) => some (.v (.slice none 0 0))
    | _ => none
  | _, _ => none
theorem mergeC_spec {F : Frag} {r : Loc} {b : Bool} {x y z : Cell} (h : mergeC b x y = some z) : (∀ D, z.inn D) ∧ (b = true → ∀ u, x.rep F r u → z.rep F r u) ∧ (b = false → ∀ u, y.rep F r u → z.rep F r u) := by
  unfold mergeC at h
  split at h
  · split at h
    · rename_i y' hy
      injection h with h; subst h
      exact ⟨fun _ => trivial, fun e u hu => by subst e; exact hu, fun e u hu => by subst e; exact wOf_rep hy hu⟩
    · cases h
  · split at h
    · rename_i y' hy
      injection h with h; subst h
      exact ⟨fun _ => trivial, fun e u hu => by subst e; exact hu, fun e u hu => by subst e; exact iOf_rep hy hu⟩
    · cases h
  · split at h
    · rename_i y' hy
      injection h with h; subst h
      exact ⟨fun _ => trivial, fun e u hu => by subst e; exact hu, fun e u hu => by subst e; exact bOf_rep hy hu⟩
    · cases h
  · split at h
    · rename_i y' hy
      injection h with h; subst h
      exact ⟨fun _ => trivial, fun e u hu => by subst e; exact hu, fun e u hu => by subst e; exact sOf_rep hy hu⟩
    · cases h
  · split at h
    · rename_i y' hy
      injection h with h; subst h
      exact ⟨fun _ => trivial, fun e u hu => by subst e; exact hu, fun e u hu => by subst e; exact dOf_rep hy hu⟩
    · cases h
  · split at h
    · injection h with h; subst h
      exact ⟨fun _ => trivial, fun e u hu => by subst e; rw [show u = _ from hu]; exact repT_nil _, fun e u hu => by subst e; exact hu⟩
    · injection h with h; subst h
      exact ⟨fun _ => trivial, fun e u hu => hu, fun e u hu => hu⟩
    · cases h
  · cases h
def setNth {α : Type} : List α → Nat → α → List α
  | [], _, _ => []
  | _ :: l, 0, x => x :: l
  | a :: l, n + 1, x => a :: setNth l n x
theorem setNth_eq {α : Type} : ∀ (l : List α) (n : Nat) (x : α), setNth l n x = l.set n x
  | [], _, _ => rfl
  | _ :: _, 0, _ => rfl
  | a :: l, n + 1, x => by simp [setNth, setNth_eq l n x]
def updC (idx : Nat) (c : Cell) (sz : Nat) : Nat → Nat → Nat → List Cell → Option (List Cell)
  | 0, _, _, l => some l
  | n + 1, i, pos, l => match nth l pos with
    | some old => match mergeC (Nat.beq idx i) c old with
      | some z => updC idx c sz n (i + 1) (pos + sz) (setNth l pos z)
      | none => none
    | none => none
section
variable {F : Frag} {r : Loc} {D : Nat → Prop}
theorem cellsRep_set : ∀ {cs : List Cell} {vs : List Value} {i : Nat} {c : Cell} {v : Value}, cellsRep F r cs vs → c.rep F r v → cellsRep F r (cs.set i c) (vs.set i v)
  | [], [], _, _, _, _, _ => by simp [cellsRep]
  | [], _ :: _, _, _, _, h, _ => h.elim
  | _ :: _, [], _, _, _, h, _ => h.elim
  | _ :: _, _ :: _, 0, _, _, h, hc => ⟨hc, h.2⟩
  | _ :: _, _ :: _, i + 1, _, _, h, hc => ⟨h.1, cellsRep_set h.2 hc⟩
theorem updC_spec {idx : Nat} {c : Cell} {sz : Nat} {v : Value} (hv : c.rep F r v) (hci : c.inn D) : ∀ {n i pos : Nat} {l l' : List Cell} {vs : List Value}, updC idx c sz n i pos l = some l' → i ≤ idx + 1 → cellsRep F r l vs → (∀ x ∈ l, x.inn D) →
    l'.length = l.length ∧ (∀ x ∈ l', x.inn D) ∧ (idx < i → cellsRep F r l' vs) ∧ (i ≤ idx → idx < i + n → pos + (idx - i) * sz < l.length ∧ cellsRep F r l' (vs.set (pos + (idx - i) * sz) v))
  | 0, i, pos, l, l', vs, h, hi, hr, hin => by
    simp only [updC, Option.some.injEq] at h; subst h
    exact ⟨rfl, hin, fun _ => hr, fun h1 h2 => by omega⟩
  | n + 1, i, pos, l, l', vs, h, hi, hr, hin => by
    simp only [updC] at h
    split at h
    · rename_i old hold
      rw [nth_eq] at hold
      split at h
      · rename_i z hz
        rw [setNth_eq] at h
        obtain ⟨m1, m2, m3⟩ := mergeC_spec (F := F) (r := r) hz
        obtain ⟨u, hu, hur⟩ := cellsRep_get hr pos old hold
        have hin' : ∀ x ∈ l.set pos z, x.inn D := fun x hx => by
          rcases List.mem_or_eq_of_mem_set hx with hx | rfl
          · exact hin x hx
          · exact m1 D
        have hpl : pos < l.length := (List.getElem?_eq_some_iff.1 hold).1
        have hself : vs.set pos u = vs := by
          apply List.ext_getElem?
          intro q
          rw [List.getElem?_set]
          split
          · rename_i e; subst e
            split
            · exact hu.symm
            · rename_i hh; exact absurd (List.getElem?_eq_some_iff.1 hu).1 hh
          · rfl
        by_cases hb : Nat.beq idx i = true
        · have e := Nat.eq_of_beq_eq_true hb
          subst e
          have hz' : cellsRep F r (l.set pos z) (vs.set pos v) := cellsRep_set hr (m2 hb v hv)
          obtain ⟨g1, g2, g3, g4⟩ := updC_spec hv hci h (by omega) hz' hin'
          refine ⟨by rw [g1]; simp, g2, fun hlt => by omega, fun _ _ => ⟨by simpa using hpl, ?_⟩⟩
          have := g3 (by omega)
          simpa using this
        · have hb' : Nat.beq idx i = false := by
            cases hq : Nat.beq idx i with
            | false => rfl
            | true => exact absurd hq hb
          have hne : idx ≠ i := fun e => by subst e; simp at hb'
          have hz' : cellsRep F r (l.set pos z) vs := by
            have := cellsRep_set (i := pos) hr (m3 hb' u hur)
            rwa [hself] at this
          by_cases hlt : idx < i
          · -- behind the place already
            have key : ∀ {n i pos : Nat} {l l' : List Cell}, idx < i → updC idx c sz n i pos l = some l' → cellsRep F r l vs → (∀ x ∈ l, x.inn D) → l'.length = l.length ∧ (∀ x ∈ l', x.inn D) ∧ cellsRep F r l' vs := by
              intro n
              induction n with
              | zero => intro i pos l l' hi h hr hin; simp only [updC, Option.some.injEq] at h; subst h; exact ⟨rfl, hin, hr⟩
              | succ n ih =>
                intro i pos l l' hi h hr hin
                simp only [updC] at h
                split at h
                · rename_i old hold
                  rw [nth_eq] at hold
                  split at h
                  · rename_i z hz
                    rw [setNth_eq] at h
                    obtain ⟨m1, m2, m3⟩ := mergeC_spec (F := F) (r := r) hz
                    obtain ⟨u, hu, hur⟩ := cellsRep_get hr pos old hold
                    have hbf : Nat.beq idx i = false := by
                      cases hb : Nat.beq idx i with
                      | false => rfl
                      | true => have := Nat.eq_of_beq_eq_true hb; omega
                    have hself : vs.set pos u = vs := by
                      apply List.ext_getElem?
                      intro q
                      rw [List.getElem?_set]
                      split
                      · rename_i e; subst e
                        split
                        · exact hu.symm
                        · rename_i hh; exact absurd (List.getElem?_eq_some_iff.1 hu).1 hh
                      · rfl
                    have hz' := cellsRep_set (i := pos) hr (m3 hbf u hur)
                    rw [hself] at hz'
                    obtain ⟨g1, g2, g3⟩ := ih (by omega) h hz' (fun x hx => by
                      rcases List.mem_or_eq_of_mem_set hx with hx | rfl
                      · exact hin x hx
                      · exact m1 D)
                    exact ⟨by rw [g1]; simp, g2, g3⟩
                  · cases h
                · cases h
            obtain ⟨g1, g2, g3⟩ := key (by omega) h hz' hin'
            exact ⟨by rw [g1]; simp, g2, fun _ => g3, fun h1 _ => by omega⟩
          · obtain ⟨g1, g2, g3, g4⟩ := updC_spec hv hci h (by omega) hz' hin'
            refine ⟨by rw [g1]; simp, g2, fun hlt' => absurd hlt' hlt, fun h1 h2 => ?_⟩
            obtain ⟨k1, k2⟩ := g4 (by omega) (by omega)
            have e : pos + sz + (idx - (i + 1)) * sz = pos + (idx - i) * sz := by
              rw [show idx - i = (idx - (i + 1)) + 1 by omega, Nat.add_mul]; omega
            rw [e] at k1 k2
            exact ⟨by simpa using k1, k2⟩
      · cases h
    · cases h
def updL (idx sz n : Nat) : List Cell → Nat → List Cell → Option (List Cell)
  | [], _, l => some l
  | c :: cs, pos, l => match updC idx c sz n 0 pos l with
    | some l' => updL idx sz n cs (pos + 1) l'
    | none => none
def setsV : List Value → Nat → List Value → List Value
  | vs, _, [] => vs
  | vs, p, u :: us => setsV (vs.set p u) (p + 1) us
theorem setsV_spec : ∀ (us vs : List Value) (p : Nat), p + us.length ≤ vs.length → setsV vs p us = vs.take p ++ (us ++ vs.drop (p + us.length))
  | [], vs, p, h => by simp [setsV]
  | u :: us, vs, p, h => by
    simp only [setsV]
    simp only [List.length_cons] at h
    rw [setsV_spec us _ _ (by simp; omega)]
    apply List.ext_getElem?
    intro i
    by_cases h1 : i < p
    · rw [List.getElem?_append_left (by simp; omega), List.getElem?_append_left (by simp; omega), List.getElem?_take, List.getElem?_take, if_pos (by omega), if_pos h1, List.getElem?_set, if_neg (by omega)]
    · by_cases h2 : i = p
      · subst h2
        rw [List.getElem?_append_left (by simp; omega), List.getElem?_append_right (by simp; omega), List.getElem?_take, if_pos (by omega), List.getElem?_set, if_pos rfl, if_pos (by omega)]
        simp
        rw [show i - min i vs.length = 0 by omega]; rfl
      · rw [List.getElem?_append_right (l₁ := List.take (p + 1) (vs.set p u)) (by simp; omega), List.getElem?_append_right (l₁ := List.take p vs) (by simp; omega)]
        simp only [List.length_take, List.length_set]
        rw [show min p vs.length = p by omega, show min (p + 1) vs.length = p + 1 by omega, show i - p = (i - (p + 1)) + 1 by omega, List.cons_append, List.getElem?_cons_succ]
        by_cases h3 : i - (p + 1) < us.length
        · rw [List.getElem?_append_left (by omega), List.getElem?_append_left (by omega)]
        · rw [List.getElem?_append_right (by omega), List.getElem?_append_right (by omega), List.getElem?_drop, List.getElem?_drop, List.getElem?_set, if_neg (by omega)]
          congr 1
          simp only [List.length_cons]; omega
theorem updL_spec {idx sz n : Nat} (hi : idx < n) : ∀ {cs : List Cell} {us : List Value} {pos : Nat} {l l' : List Cell} {vs : List Value}, updL idx sz n cs pos l = some l' → cellsRep F r cs us → (∀ c ∈ cs, c.inn D) → cellsRep F r l vs → (∀ x ∈ l, x.inn D) →
    l'.length = l.length ∧ (∀ x ∈ l', x.inn D) ∧ (cs ≠ [] → pos + idx * sz + cs.length ≤ l.length) ∧ cellsRep F r l' (setsV vs (pos + idx * sz) us)
  | [], [], pos, l, l', vs, h, _, _, hr, hin => by
    simp only [updL, Option.some.injEq] at h; subst h
    exact ⟨rfl, hin, fun h => absurd rfl h, hr⟩
  | [], _ :: _, _, _, _, _, _, h, _, _, _ => h.elim
  | _ :: _, [], _, _, _, _, _, h, _, _, _ => h.elim
  | c :: cs, u :: us, pos, l, l', vs, h, hc, hci, hr, hin => by
    simp only [updL] at h
    split at h
    · rename_i l1 hl1
      obtain ⟨g1, g2, _, g4⟩ := updC_spec hc.1 (hci c List.mem_cons_self) hl1 (by omega) hr hin
      obtain ⟨k1, k2⟩ := g4 (Nat.zero_le _) (by omega)
      simp only [Nat.sub_zero] at k1 k2
      obtain ⟨j1, j2, j3, j4⟩ := updL_spec hi h hc.2 (fun x hx => hci x (List.mem_cons_of_mem _ hx)) k2 g2
      refine ⟨by rw [j1, g1], j2, fun _ => ?_, ?_⟩
      · cases cs with
        | nil => simp; omega
        | cons a b =>
          have := j3 (by simp)
          rw [g1] at this
          simp only [List.length_cons] at this ⊢; omega
      · simp only [setsV]
        rw [show pos + idx * sz + 1 = pos + 1 + idx * sz by omega]; exact j4
    · cases h
end
def setD : (ts : Tys) → ts.den → Nat → List Cell → Option ts.den
  | _, x, _, [] => some x
  | .nil, _, _, _ :: _ => none
  | .cons t ts, x, 0, c :: cs => match ofCell t c, setD ts x.2 0 cs with
    | some y, some ys => some (y, ys)
    | _, _ => none
  | .cons t ts, x, off + 1, c :: cs => match setD ts x.2 off (c :: cs) with
    | some ys => some (x.1, ys)
    | none => none
theorem setD_spec {F : Frag} {r : Loc} : ∀ {ts : Tys} {x y : ts.den} {off : Nat} {cs : List Cell} {us : List Value}, setD ts x off cs = some y → cellsRep F r cs us → off + cs.length ≤ ts.len ∨ cs = [] →
    (cs = [] ∨ off + cs.length ≤ ts.len) ∧ ∀ {G G' : Frag} {b o : Nat}, RepC G F b o ts x → (∀ i v, us[i]? = some v → G' b (o + off + i) = some v) → (∀ i, i < ts.len → i < off ∨ off + us.length ≤ i → ∀ v, G b (o + i) = some v → G' b (o + i) = some v) → RepC G' F b o ts y
  | ts, x, y, off, [], [], h, hr, _ => by
    have h' : some x = some y := by cases ts <;> cases off <;> exact h
    have : y = x := by injection h' with h'; exact h'.symm
    subst this
    exact ⟨.inl rfl, fun {G G' b o} hx _ h2 => RepC.congr (Frag.le_refl F) (fun i hi v hv => h2 i hi (by simp; omega) v hv) hx⟩
  | ts, x, y, off, [], _ :: _, h, hr, _ => hr.elim
  | ts, x, y, off, _ :: _, [], h, hr, _ => hr.elim
  | .nil, x, y, off, c :: cs, u :: us, h, hr, _ => by simp [setD] at h
  | .cons t ts, x, y, 0, c :: cs, u :: us, h, hr, hle => by
    simp only [setD] at h
    split at h
    · rename_i z zs hz hzs
      injection h with h; subst h
      have hle' : cs.length ≤ ts.len ∨ cs = [] := by
        rcases hle with hle | hle
        · exact .inl (by simp [Tys.len] at hle; omega)
        · cases hle
      obtain ⟨g1, g2⟩ := setD_spec hzs hr.2 (by simpa using hle')
      refine ⟨.inr (by simp [Tys.len]; rcases hle' with h | h; omega; subst h; simp), fun {G G' b o} hx h1 h2 => ?_⟩
      simp only [RepC] at hx ⊢
      refine ⟨⟨u, by simpa using h1 0 u rfl, ofCell_rep hz hr.1⟩, g2 hx.2 (fun i v hv => ?_) (fun i hi hor v hv => ?_)⟩
      · have := h1 (i + 1) v (by simpa using hv)
        rw [← this]; congr 1; omega
      · have := h2 (i + 1) (by simp [Tys.len]; omega) (by simp only [List.length_cons]; omega) v (by rw [← hv]; congr 1; omega)
        rw [← this]; congr 1; omega
    · cases h
  | .cons t ts, x, y, off + 1, c :: cs, u :: us, h, hr, hle => by
    simp only [setD] at h
    split at h
    · rename_i zs hzs
      injection h with h; subst h
      have hle' : off + (c :: cs).length ≤ ts.len ∨ (c :: cs) = [] := by
        rcases hle with hle | hle
        · exact .inl (by simp [Tys.len] at hle ⊢; omega)
        · cases hle
      obtain ⟨g1, g2⟩ := setD_spec hzs hr hle'
      refine ⟨.inr (by simp only [Tys.len]; rcases g1 with h | h; cases h; omega), fun {G G' b o} hx h1 h2 => ?_⟩
      simp only [RepC] at hx ⊢
      obtain ⟨⟨v, e1, e2⟩, e3⟩ := hx
      refine ⟨⟨v, by simpa using h2 0 (by simp [Tys.len]) (.inl (by omega)) v (by simpa using e1), e2⟩, g2 e3 (fun i v hv => ?_) (fun i hi hor v hv => ?_)⟩
      · have := h1 i v hv
        rw [← this]; congr 1; omega
      · have := h2 (i + 1) (by simp [Tys.len]; omega) (by omega) v (by rw [← hv]; congr 1; omega)
        rw [← this]; congr 1; omega
    · cases h
end Go.Sz
