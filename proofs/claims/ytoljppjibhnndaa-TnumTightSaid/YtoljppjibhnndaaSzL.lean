/-
  A symbolic machine for one call, with rows of any length: append.
-/
import Derived.Test.YtoljppjibhnndaaSzK
namespace Go.Sz
open Go Go.RowKit Go.Sy
set_option linter.unusedVariables false
set_option linter.unusedSimpArgs false
set_option linter.constructorNameAsVariable false

def isSlOrStr : TypeDesc → Bool
  | .slice _ => true
  | .string => true
  | _ => false

section
variable {P : Program}

theorem append_room (t1 t2 ty e : TypeId) (i : TypeInfo) (d2 : TypeDesc) (ht : P.underlying t1 = some (.slice e)) (hi : P.info? e = some i) (ht2 : P.underlying t2 = some d2) (hd : isSlOrStr d2 = true)
    (w : World) (b o n cap m : Nat) (x : Value) (vs : List Value) (hx : Reads P w i.size m x vs) (hroom : n + m ≤ cap) (h1 : ∀ u ∈ vs, u.oneCell' = true) (hth : w.there b (o + n * i.size) vs.length) :
    (Builtin.append_ #[t1, t2] ty #[.slice (some ⟨b, o, none⟩) n cap, x]).run P w = .ok (.slice (some ⟨b, o, none⟩) (n + m) cap) (w.setCells b (o + n * i.size) vs) := by
  have hl := hx.1
  have hst := run_storeCells_cells (P := P) b (o + n * i.size) vs 0 w (fun j hj => by simpa using (hth j hj).1) (fun j hj => by simpa using (hth j hj).2) h1
  simp only [Nat.add_zero] at hst
  have hf' := hx.full w rfl
  cases d2 <;> first | (simp [isSlOrStr] at hd; done) | simp [Builtin.append_, run_underlying ht, run_underlying ht2, sizeOf, typeInfo, hi, hl, hroom, hf', Addr.add_mid, hst]

theorem append_room_nil (t1 t2 ty e : TypeId) (i : TypeInfo) (d2 : TypeDesc) (ht : P.underlying t1 = some (.slice e)) (hi : P.info? e = some i) (ht2 : P.underlying t2 = some d2) (hd : isSlOrStr d2 = true)
    (w : World) (m : Nat) (x : Value) (vs : List Value) (hx : Reads P w i.size m x vs) (hm : m = 0) :
    (Builtin.append_ #[t1, t2] ty #[.slice none 0 0, x]).run P w = .ok (.slice none 0 0) w := by
  subst hm
  have hl := hx.1
  have hf' := hx.full w rfl
  cases d2 <;> first | (simp [isSlOrStr] at hd; done) | simp [Builtin.append_, run_underlying ht, run_underlying ht2, sizeOf, typeInfo, hi, hl, hf']

set_option maxHeartbeats 2000000 in
theorem append_grow (t1 t2 ty e : TypeId) (i : TypeInfo) (z : Value) (d2 : TypeDesc) (ht : P.underlying t1 = some (.slice e)) (hi : P.info? e = some i) (hz : i.zero = some z) (ht2 : P.underlying t2 = some d2) (hd : isSlOrStr d2 = true)
    (w : World) (a : Option Addr) (n cap m : Nat) (x : Value) (vs olds : List Value) (hx : Reads P w i.size m x vs) (ho : Reads P w i.size n (.slice a n cap) olds) (hg : cap < n + m) (h63 : n + m ≤ maxLen) (hb : (n + m) * i.bytes ≤ 140737488355328) :
    (Builtin.append_ #[t1, t2] ty #[.slice a n cap, x]).run P w = .ok (.slice (some ⟨w.heap.size, 0, none⟩) (n + m) (grownCap w (n + m) cap e))
      (w.drew.alloc (.cells (olds.toArray ++ vs.toArray ++ Builtin.zeroCells z.cells (grownCap w (n + m) cap e - (n + m))) e)) := by
  have hl := hx.1
  have hf' := hx.full w.drew rfl
  have ho' := ho.full w.drew rfl
  have hfit := growslice_fits hg hb
  have hn : ¬ (n + m ≤ cap) := by omega
  have h63' : ¬ (9223372036854775807 < ((n : Int) + (m : Int))) := by simp only [maxLen] at h63; omega
  have h48' : ¬ (281474976710656 < Builtin.nextslicecap (n + m) cap * i.bytes) := by omega
  cases d2 <;> first | (simp [isSlOrStr] at hd; done) | (simp [Builtin.append_, run_underlying ht, run_underlying ht2, sizeOf, typeInfo, zeroValue, hi, hz, hl, hn, h63', h48', Question.forced, hf', ho', newRow, grownCap]; congr 2; apply Array.ext'; simp)
end

/-! ### append -/
def bytesOk (n bytes : Nat) : Bool := Nat.ble (n * bytes) 140737488355328

structure Eff where
  res : Option AV
  ups : List (Nat × Ob)
  nn : Nat

/-- The row onto which is appended: what it holds, the object that dies. -/
def baseT (H : Hf) (ts : Tys) : Cell → Tree (List ts.den × List Nat)
  | .h j => match H j with
    | some (.row _ l) => match toL ts l with
      | some l' => .ret (l', [j])
      | none => .fail
    | _ => .fail
  | .hs j sz lo n mx => match H j with
    | some (.row _ l) => match toL ts l with
      | some l' => .ck (Nat.ble (lo + n) l'.length && (Nat.beq sz ts.len && (match mx with | none => true | some m => Nat.ble (lo + n) m && Nat.ble m l'.length))) (.ret (cut l' lo (lo + n), [j]))
      | none => .fail
    | _ => .fail
  | .v (.slice none 0 0) => .ret ([], [])
  | _ => .fail

/-- What stands behind a base: the header's parts, and the room that is one's own. -/
structure Base (F : Frag) (r : Loc) (H : Hf) (w : World) (P : Program) (ts : Tys) (l : List ts.den) (js : List Nat) (a : Option Addr) (b o cap : Nat) (vs : List Value) : Prop where
  vals : RowVals F ts l vs
  reads : Reads P w ts.len l.length (.slice a l.length cap) vs
  non : a = none → l = [] ∧ cap = 0
  ptr : a ≠ none → a = some ⟨b, o, none⟩
  le : l.length ≤ cap
  max : cap ≤ maxLen
  there : a ≠ none → w.there b o (cap * ts.len)
  at_ : a ≠ none → w.rangeAt b o vs
  foot : a ≠ none → ∀ p, o ≤ p → p < o + cap * ts.len → ∃ j ob, j ∈ js ∧ H j = some ob ∧ ob.foot (r j) b p
  jsH : ∀ j ∈ js, ∃ ob, H j = some ob

section
variable {P : Program} {F : Frag} {r : Loc} {D : Nat → Prop} {w : World} {H : Hf}

theorem baseT_run (hs : Sees F r D H w) {ts : Tys} {c : Cell} {l : List ts.den} {js : List Nat} (h : (baseT H ts c).run = some (l, js)) {u : Value} (hu : c.rep F r u) :
    ∃ a b o cap vs, u = .slice a l.length cap ∧ Base F r H w P ts l js a b o cap vs := by
  unfold baseT at h
  split at h
  · rename_i j
    split at h
    · rename_i ts' l0 hj
      split at h
      · rename_i l' hl
        simp only [Tree.run, Option.some.injEq, Prod.mk.injEq] at h
        obtain ⟨rfl, rfl⟩ := h
        obtain ⟨e, _, e3⟩ := toL_vals hl
        subst e
        obtain ⟨vs, g1, g2⟩ := row_vals (hs.obs j _ hj)
        have g1' := rowVals_cast hl g1
        rcases row_nil (hs.obs j _ hj) with ⟨k1, k2⟩ | ⟨cap, k1, k2, k3, k4⟩
        · have hl0 : l' = [] := List.length_eq_zero_iff.1 (by rw [e3, k2]; rfl)
          refine ⟨none, 0, 0, 0, vs, by rw [hu.1, k1, hl0]; rfl, g1', ?_, fun _ => ⟨hl0, rfl⟩, fun h => absurd rfl h, by rw [hl0]; simp, Nat.zero_le _, fun h => absurd rfl h, fun h => absurd rfl h, fun h => absurd rfl h, fun j' hj' => ?_⟩
          · rw [hl0]
            exact reads_slice (b := (r j).b) (o := (r j).o) (by rw [g1.len, k2]) (fun h => absurd (by simp) h) (fun i v hv => g2 i v hv)
          · simp at hj'; subst hj'; exact ⟨_, hj⟩
        · refine ⟨_, (r j).b, (r j).o, cap, vs, by rw [hu.1, k1, e3], g1', ?_, fun h => (by cases h), fun _ => rfl, by rw [e3]; exact k2, k3, fun _ => k4, fun _ => g2, fun _ p h1 h2 => ⟨j, _, by simp, hj, _, _, k1, rfl, h1, h2⟩, fun j' hj' => ?_⟩
          · rw [e3]
            exact reads_slice g1.len (fun _ => rfl) (fun i v hv => g2 i v hv)
          · simp at hj'; subst hj'; exact ⟨_, hj⟩
      · cases h
    · cases h
  · rename_i j sz lo n mx
    split at h
    · rename_i ts' l0 hj
      split at h
      · rename_i l' hl
        obtain ⟨hck, h⟩ := Tree.run_ck h
        simp only [Tree.run, Option.some.injEq, Prod.mk.injEq] at h
        obtain ⟨rfl, rfl⟩ := h
        simp only [Bool.and_eq_true] at hck
        have hle : lo + n ≤ l'.length := Nat.le_of_ble_eq_true hck.1
        have hsz : sz = ts.len := Nat.eq_of_beq_eq_true hck.2.1
        obtain ⟨e, _, e3⟩ := toL_vals hl
        subst e
        obtain ⟨vs, g1, g2⟩ := row_vals (hs.obs j _ hj)
        have g1' := rowVals_cast hl g1
        have hlen : (cut l' lo (lo + n)).length = n := by simp [cut]; omega
        have hc := g1'.cut (lo := lo) (hi := lo + n) (by omega) hle
        rcases row_nil (hs.obs j _ hj) with ⟨k1, k2⟩ | ⟨cap, k1, k2, k3, k4⟩
        · have h0 : l'.length = 0 := by rw [e3, k2]; rfl
          have hn : n = 0 := by omega
          have hlo : lo = 0 := by omega
          have hm : mx.getD 0 = 0 := by
            cases mx with
            | none => rfl
            | some m =>
              have h2 := hck.2.2
              simp only [Bool.and_eq_true] at h2
              have : m ≤ l'.length := Nat.le_of_ble_eq_true h2.2
              simp; omega
          have hcut : cut l' lo (lo + n) = [] := List.length_eq_zero_iff.1 (by rw [hlen, hn])
          refine ⟨none, 0, 0, 0, _, ?_, hc, ?_, fun _ => ⟨hcut, rfl⟩, fun h => absurd rfl h, by rw [hcut]; simp, Nat.zero_le _, fun h => absurd rfl h, fun h => absurd rfl h, fun h => absurd rfl h, fun j' hj' => ?_⟩
          · rw [hu.1, k1, hlen, hn, hlo]; simp [subHdr, hm]
          · rw [hlen, hn]
            have hvs0 : ((vs.drop (lo * ts'.len)).take ((lo + n - lo) * ts'.len)) = [] := List.length_eq_zero_iff.1 (by rw [hc.len, hlen, hn]; simp)
            rw [hn] at hvs0
            rw [hvs0]
            exact reads_slice (b := 0) (o := 0) (by simp) (fun h => absurd (by simp) h) (fun i v hv => by simp at hv)
          · simp at hj'; subst hj'; exact ⟨_, hj⟩
        · have hM : lo + n ≤ mx.getD cap ∧ mx.getD cap ≤ cap := by
            cases mx with
            | none => simp; omega
            | some m =>
              have h2 := hck.2.2
              simp only [Bool.and_eq_true] at h2
              have h3 : lo + n ≤ m := Nat.le_of_ble_eq_true h2.1
              have h4 : m ≤ l'.length := Nat.le_of_ble_eq_true h2.2
              simp; omega
          generalize hMd : mx.getD cap = M at hM
          have hu1 : u = .slice (if M = lo then some ⟨(r j).b, (r j).o, none⟩ else some ⟨(r j).b, (r j).o + lo * ts'.len, none⟩) n (M - lo) := by
            rw [hu.1, k1]
            simp only [subHdr, hMd, hsz, Option.map_some, Addr.add_mid]
          have hrange : ∀ i v, ((vs.drop (lo * ts'.len)).take ((lo + n - lo) * ts'.len))[i]? = some v → w.cell? ⟨(r j).b, (r j).o + lo * ts'.len + i, none⟩ = some v := fun i v hv => by
            have hi : i < (lo + n - lo) * ts'.len := by
              have := (List.getElem?_eq_some_iff.1 hv).1
              rw [List.length_take] at this
              exact Nat.lt_of_lt_of_le this (Nat.min_le_left _ _)
            rw [List.getElem?_take, if_pos hi, List.getElem?_drop] at hv
            have := g2 _ v hv
            rw [← Nat.add_assoc] at this; exact this
          by_cases hM0 : M = lo
          · have hn : n = 0 := by omega
            have hcut : cut l' lo (lo + n) = [] := List.length_eq_zero_iff.1 (by rw [hlen, hn])
            have hvs0 : ((vs.drop (lo * ts'.len)).take ((lo + n - lo) * ts'.len)) = [] := List.length_eq_zero_iff.1 (by rw [hc.len, hlen, hn]; simp)
            rw [if_pos hM0] at hu1
            refine ⟨_, (r j).b, (r j).o, 0, _, by rw [hu1, hlen, hM0]; simp, hc, ?_, fun h => (by cases h), fun _ => rfl, by rw [hcut]; simp, Nat.zero_le _, fun _ i hi => by simp at hi, fun _ => ?_, fun _ p h1 h2 => by simp at h2; omega, fun j' hj' => ?_⟩
            · rw [hlen, hvs0, hn]
              exact reads_slice (b := 0) (o := 0) (by simp) (fun h => absurd (by simp) h) (fun i v hv => by simp at hv)
            · rw [hvs0]; intro i v hv; simp at hv
            · simp at hj'; subst hj'; exact ⟨_, hj⟩
          · rw [if_neg hM0] at hu1
            have hmul : lo * ts'.len + (M - lo) * ts'.len ≤ cap * ts'.len := by rw [← Nat.add_mul]; exact Nat.mul_le_mul_right _ (by omega)
            refine ⟨_, (r j).b, (r j).o + lo * ts'.len, M - lo, _, by rw [hu1, hlen], hc, ?_, fun h => (by cases h), fun _ => rfl, by rw [hlen]; omega, by omega, fun _ i hi => ?_, fun _ => hrange, fun _ p h1 h2 => ⟨j, _, by simp, hj, _, _, k1, rfl, by omega, by omega⟩, fun j' hj' => ?_⟩
            · rw [hlen]
              exact reads_slice (by rw [hc.len, hlen]) (fun _ => rfl) hrange
            · have := k4 (lo * ts'.len + i) (by omega)
              rw [← Nat.add_assoc] at this; exact this
            · simp at hj'; subst hj'; exact ⟨_, hj⟩
      · cases h
    · cases h
  · simp only [Tree.run, Option.some.injEq, Prod.mk.injEq] at h
    obtain ⟨rfl, rfl⟩ := h
    refine ⟨none, 0, 0, 0, [], hu, RowVals.nil F ts, ?_, fun _ => ⟨rfl, rfl⟩, fun h => absurd rfl h, Nat.le_refl _, Nat.zero_le _, fun h => absurd rfl h, fun h => absurd rfl h, fun h => absurd rfl h, fun j' hj' => by cases hj'⟩
    exact reads_slice (b := 0) (o := 0) (by simp) (fun h => absurd (by simp) h) (fun i v h => by simp at h)
  · cases h
end
end Go.Sz
