/-
  A symbolic machine for one call, with rows of any length: append.
-/
import Derived.Test.YtoljppjibhnndaaSzJ
namespace Go.Sz
open Go Go.RowKit Go.Sy
set_option linter.unusedVariables false
set_option linter.unusedSimpArgs false
set_option linter.constructorNameAsVariable false

/-! ### What a slice holds -/
def litRows (ts : Tys) : Nat → List Cell → Option (List ts.den)
  | 0, _ => some []
  | n + 1, cs => match takeX ts.len cs with
    | some a => match ofCells ts a, litRows ts n (cs.drop ts.len) with
      | some x, some xs => some (x :: xs)
      | _, _ => none
    | none => none

def strRows (s : ByteArray) : List (Tys.den (.cons (.w .u8) .nil)) := s.data.toList.map fun b => (b.toBitVec, ())

def contT (H : Hf) (ts : Tys) : Cell → Tree (List ts.den)
  | .d _ l => Tree.ofOpt (toL ts l)
  | .h j => match H j with
    | some (.row _ l) => Tree.ofOpt (toL ts l)
    | some (.frz _ l) => Tree.ofOpt (toL ts l)
    | _ => .fail
  | .hs j sz lo n mx => match H j with
    | some (.row _ l) => match toL ts l with
      | some l' => .ck (Nat.ble (lo + n) l'.length && (Nat.beq sz ts.len && (Nat.beq n 0 || mxGt lo mx))) (.ret (cut l' lo (lo + n)))
      | none => .fail
    | _ => .fail
  | .s j off sz n _ => match H j with
    | some (.lit l) => bif Nat.beq sz ts.len then Tree.ofOpt (litRows ts n (l.drop off)) else .fail
    | _ => .fail
  | .v (.slice _ 0 _) => .ret []
  | .v (.string s) => Tree.ofOpt (toL ts (strRows s))
  | _ => .fail

section
variable {P : Program} {F : Frag} {r : Loc} {D : Nat → Prop} {w : World} {H : Hf}

theorem toL_vals {ts ts' : Tys} {l : List ts.den} {l' : List ts'.den} (h : toL ts' l = some l') : ts = ts' ∧ HEq l l' ∧ l'.length = l.length := by
  unfold toL at h
  split at h
  · rename_i e
    have := Tys.eqb_eq e
    subst this
    injection h with h; subst h
    exact ⟨rfl, HEq.rfl, rfl⟩
  · cases h

theorem litRows_vals {ts : Tys} : ∀ {n : Nat} {cs : List Cell} {xs : List ts.den} {vs : List Value}, litRows ts n cs = some xs → cellsRep F r cs vs → (∀ v ∈ vs, v.oneCell' = true) →
    xs.length = n ∧ n * ts.len ≤ vs.length ∧ RowVals F ts xs (vs.take (n * ts.len))
  | 0, cs, xs, vs, h, hr, h1 => by
    simp [litRows] at h; subst h
    refine ⟨rfl, by simp, ?_⟩
    rw [Nat.zero_mul, List.take_zero]; exact RowVals.nil F ts
  | n + 1, cs, xs, vs, h, hr, h1 => by
    simp only [litRows] at h
    split at h
    · rename_i a ha
      split at h
      · rename_i x ys hx hys
        injection h with h; subst h
        obtain ⟨e1, e2⟩ := takeX_spec _ _ _ ha
        have hra : cellsRep F r a (vs.take ts.len) := by rw [e1]; exact cellsRep_take _ hr
        have hla := cellsRep_length hra
        have g0 := rowVals_one hx hra (fun v hv => h1 v (List.mem_of_mem_take hv))
        obtain ⟨g1, g2, g3⟩ := litRows_vals hys (cellsRep_drop ts.len hr) (fun v hv => h1 v (List.mem_of_mem_drop hv))
        have hle : ts.len ≤ vs.length := by simp at hla; omega
        simp only [List.length_drop] at g2
        refine ⟨by simp [g1], by rw [Nat.add_mul]; omega, ?_⟩
        have := g0.append g3
        rw [List.singleton_append] at this
        have e : vs.take ((n + 1) * ts.len) = vs.take ts.len ++ (vs.drop ts.len).take (n * ts.len) := by
          rw [Nat.add_mul, Nat.one_mul, Nat.add_comm, List.take_add]
        rw [e]; exact this
      · cases h
    · cases h

/-- The cells of a slice, read in w or in whatever world has its memory. -/
def Reads (P : Program) (w : World) (sz m : Nat) (u : Value) (vs : List Value) : Prop :=
  Builtin.lenOf u = pure m ∧ vs.length = m * sz ∧ ∀ n, n ≤ m → ∀ W : World, W.heap = w.heap → (Builtin.firstCells sz n u).run P W = .ok (vs.take (n * sz)).toArray W

theorem Reads.full {sz m : Nat} {u : Value} {vs : List Value} (h : Reads P w sz m u vs) (W : World) (hW : W.heap = w.heap) : (Builtin.firstCells sz m u).run P W = .ok vs.toArray W := by
  have := h.2.2 m (Nat.le_refl _) W hW
  rw [this, List.take_of_length_le (by rw [h.2.1]; exact Nat.le_refl _)]

theorem reads_slice {a : Option Addr} {b o m cap sz : Nat} {vs : List Value} (hl : vs.length = m * sz) (ha : m * sz ≠ 0 → a = some ⟨b, o, none⟩) (h : ∀ i v, vs[i]? = some v → w.cell? ⟨b, o + i, none⟩ = some v) :
    Reads P w sz m (.slice a m cap) vs := by
  refine ⟨rfl, hl, fun n hn W hW => ?_⟩
  have hle : n * sz ≤ m * sz := Nat.mul_le_mul_right _ hn
  cases a with
  | none =>
    have h0 : m * sz = 0 := by
      by_cases h0 : m * sz = 0
      · exact h0
      · cases ha h0
    have : vs = [] := List.length_eq_zero_iff.1 (by omega)
    subst this
    rw [List.take_nil]
    exact run_firstCells_none W sz n m cap
  | some a =>
    refine run_firstCells_some (P := P) W sz n a m cap (vs.take (n * sz)) (by rw [List.length_take]; omega) (fun j v hv => ?_)
    have hj : j < n * sz := by
      have := (List.getElem?_eq_some_iff.1 hv).1
      rw [List.length_take] at this
      exact Nat.lt_of_lt_of_le this (Nat.min_le_left _ _)
    rw [List.getElem?_take, if_pos hj] at hv
    have := ha (by omega)
    injection this with this; subst this
    rw [Addr.add_mid]
    have := h j v hv
    unfold World.cell? at this ⊢
    rw [hW]; exact this

theorem rowVals_cast {ts ts' : Tys} {l : List ts.den} {l' : List ts'.den} (h : toL ts' l = some l') {vs : List Value} (hv : RowVals F ts l vs) : RowVals F ts' l' vs := by
  obtain ⟨e, e2, _⟩ := toL_vals h
  subst e
  rw [← eq_of_heq e2]; exact hv

/-- The values of a slice that nobody writes. -/
theorem repT_vals (hF : F.le (memF w)) {ts : Tys} {l : List ts.den} {u : Value} (h : RepT F (.sl ts) l u) : ∃ vs, RowVals F ts l vs ∧ Reads P w ts.len l.length u vs := by
  simp only [RepT] at h
  obtain ⟨a, cap, rfl, h1, h2, h3⟩ := h
  by_cases hl : l = []
  · subst hl
    exact ⟨[], RowVals.nil F ts, reads_slice (b := 0) (o := 0) (by simp) (fun h => absurd (by simp) h) (fun i v h => by simp at h)⟩
  · obtain ⟨b, o, rfl, h4⟩ := h3 hl
    obtain ⟨vs, g1, g2⟩ := rowVals_of h4
    exact ⟨vs, g1, reads_slice g1.len (fun _ => rfl) (fun i v hv => hF _ _ _ (g2 i v hv))⟩

/-- The values of a row in memory. -/
theorem row_vals {ts : Tys} {l : List ts.den} {d : Ld} (h : ObIs F r d w (.row ts l)) : ∃ vs, RowVals F ts l vs ∧ w.rangeAt d.b d.o vs := by
  rcases h with ⟨h1, h2⟩ | ⟨cap, h1, h2, h3, h4, h5⟩
  · subst h2; exact ⟨[], RowVals.nil F ts, fun i v h => by simp at h⟩
  · obtain ⟨vs, g1, g2⟩ := rowVals_of h5
    exact ⟨vs, g1, fun i v hv => g2 i v hv⟩

theorem row_nil {ts : Tys} {l : List ts.den} {d : Ld} (h : ObIs F r d w (.row ts l)) : (d.hv = .slice none 0 0 ∧ l = []) ∨ ∃ cap, d.hv = .slice (some ⟨d.b, d.o, none⟩) l.length cap ∧ l.length ≤ cap ∧ cap ≤ maxLen ∧ w.there d.b d.o (cap * ts.len) := by
  rcases h with h | ⟨cap, h1, h2, h3, h4, h5⟩
  · exact .inl h
  · exact .inr ⟨cap, h1, h2, h3, h4⟩

theorem strRows_len (s : ByteArray) : (strRows s).length = s.size := by simp [strRows]

theorem strRows_vals (s : ByteArray) : RowVals F (.cons (.w .u8) .nil) (strRows s) (s.data.toList.map fun b => .int .u8 b.toNat) ∧ Reads P w 1 s.size (.string s) (s.data.toList.map fun b => .int .u8 b.toNat) := by
  refine ⟨⟨by simp [strRows, Tys.len], fun i x hx => ?_, fun v hv => ?_⟩, rfl, ?_, fun n hn W _ => ?_⟩
  · unfold strRows at hx
    rw [List.getElem?_map] at hx
    cases hb : s.data.toList[i]? with
    | none => rw [hb] at hx; cases hx
    | some b =>
      rw [hb] at hx
      simp only [Option.map_some, Option.some.injEq] at hx; subst hx
      simp only [RepC, RepT, and_true]
      refine ⟨.int .u8 b.toNat, ?_, rfl⟩
      simp only [lF, Tys.len, Nat.zero_add, Nat.mul_one, List.getElem?_map, hb, Option.map_some]
  · obtain ⟨b, _, rfl⟩ := List.mem_map.1 hv; rfl
  · simp
  · simp only [Builtin.firstCells, Sem.run_pure]
    congr 1
    apply Array.ext'; simp [List.map_take]

theorem contT_run (hs : Sees F r D H w) {ts : Tys} {c : Cell} {xs : List ts.den} (h : (contT H ts c).run = some xs) {u : Value} (hu : c.rep F r u) :
    ∃ vs, RowVals F ts xs vs ∧ Reads P w ts.len xs.length u vs := by
  unfold contT at h
  split at h
  · rename_i ts' l
    rw [Tree.run_ofOpt] at h
    obtain ⟨vs, g1, g2⟩ := repT_vals (P := P) hs.fin (show RepT F (.sl ts') l u from hu)
    obtain ⟨e, _, e3⟩ := toL_vals h
    exact ⟨vs, rowVals_cast h g1, by rw [e3, ← e]; exact g2⟩
  · rename_i j
    split at h
    · rename_i ts' l hj
      rw [Tree.run_ofOpt] at h
      obtain ⟨e, _, e3⟩ := toL_vals h
      obtain ⟨vs, g1, g2⟩ := row_vals (hs.obs j _ hj)
      refine ⟨vs, rowVals_cast h g1, ?_⟩
      rw [e3, ← e, hu.1]
      rcases row_nil (hs.obs j _ hj) with ⟨k1, k2⟩ | ⟨cap, k1, _⟩
      · rw [k1, k2]
        exact reads_slice (b := (r j).b) (o := (r j).o) (by rw [g1.len, k2]) (fun h => absurd (by simp) h) (fun i v hv => g2 i v hv)
      · rw [k1]
        exact reads_slice g1.len (fun _ => rfl) (fun i v hv => g2 i v hv)
    · rename_i ts' l hj
      rw [Tree.run_ofOpt] at h
      obtain ⟨vs, g1, g2⟩ := repT_vals (P := P) hs.fin (show RepT F (.sl ts') l u by rw [hu.1]; exact hs.obs j _ hj)
      obtain ⟨e, _, e3⟩ := toL_vals h
      exact ⟨vs, rowVals_cast h g1, by rw [e3, ← e]; exact g2⟩
    · cases h
  · rename_i j sz lo n mx
    split at h
    · rename_i ts' l hj
      split at h
      · rename_i l' hl
        obtain ⟨hck, h⟩ := Tree.run_ck h
        simp only [Tree.run, Option.some.injEq] at h; subst h
        simp only [Bool.and_eq_true] at hck
        have hle : lo + n ≤ l'.length := Nat.le_of_ble_eq_true hck.1
        have hsz : sz = ts.len := Nat.eq_of_beq_eq_true hck.2.1
        obtain ⟨e, _, e3⟩ := toL_vals hl
        obtain ⟨vs, g1, g2⟩ := row_vals (hs.obs j _ hj)
        have g1' := rowVals_cast hl g1
        have hc := g1'.cut (lo := lo) (hi := lo + n) (by omega) hle
        have hlen : (cut l' lo (lo + n)).length = n := by simp [cut]; omega
        refine ⟨_, hc, ?_⟩
        rw [hlen, hu.1]
        have hgen : ∀ (a : Option Addr) (cap : Nat), (r j).hv = .slice a l.length cap → l.length ≤ cap → (n ≠ 0 → a = some ⟨(r j).b, (r j).o, none⟩) →
            Reads P w ts.len n (subHdr (r j).hv sz lo n mx) ((vs.drop (lo * ts.len)).take ((lo + n - lo) * ts.len)) := by
          intro a cap hhv hcap ha
          rw [hhv]
          refine reads_slice (b := (r j).b) (o := (r j).o + lo * ts.len) (by rw [hc.len, hlen]) (fun hne => ?_) (fun i v hv => ?_)
          · have hn : n ≠ 0 := fun e => by subst e; simp at hne
            rw [ha hn]
            have hmx : mx.getD cap ≠ lo := by
              cases mx with
              | none => simp; omega
              | some m =>
                have h2 := hck.2.2
                simp only [Bool.or_eq_true] at h2
                rcases h2 with h2 | h2
                · exact absurd (Nat.eq_of_beq_eq_true h2) hn
                · have : lo < m := Nat.le_of_ble_eq_true h2
                  simp; omega
            rw [if_neg hmx, hsz]
            simp [Addr.add_mid]
          · have hi : i < (lo + n - lo) * ts.len := by
              have := (List.getElem?_eq_some_iff.1 hv).1
              rw [List.length_take] at this
              exact Nat.lt_of_lt_of_le this (Nat.min_le_left _ _)
            rw [List.getElem?_take, if_pos hi, List.getElem?_drop] at hv
            have := g2 _ v hv
            rw [← Nat.add_assoc] at this; exact this
        rcases row_nil (hs.obs j _ hj) with ⟨k1, k2⟩ | ⟨cap, k1, k2, _⟩
        · refine hgen none 0 (by rw [k1, k2]; rfl) (by rw [k2]; simp) (fun hn => ?_)
          rw [e3, k2] at hle; simp at hle; omega
        · exact hgen _ cap k1 k2 (fun _ => rfl)
      · cases h
    · cases h
  · rename_i j off sz n cap
    split at h
    · rename_i l hj
      cases hb : Nat.beq sz ts.len with
      | false => rw [hb] at h; cases h
      | true =>
        rw [hb] at h
        simp only [cond_true, Tree.run_ofOpt] at h
        obtain ⟨us, k1, k2, k3, k4⟩ := hs.obs j _ hj
        obtain ⟨g1, g2, g3⟩ := litRows_vals h (cellsRep_drop off k1) (fun v hv => k4 v (List.mem_of_mem_drop hv))
        refine ⟨_, g3, ?_⟩
        rw [g1, show u = _ from hu]
        refine reads_slice (by rw [g3.len, g1]) (fun _ => rfl) (fun i v hv => ?_)
        have hi : i < n * ts.len := by
          have := (List.getElem?_eq_some_iff.1 hv).1
          simp at this; omega
        rw [List.getElem?_take, if_pos hi, List.getElem?_drop] at hv
        have := k2 _ v hv
        rw [← Nat.add_assoc] at this; exact this
    · cases h
  · simp only [Tree.run, Option.some.injEq] at h; subst h
    refine ⟨[], RowVals.nil F ts, ?_⟩
    rename_i a0 c0
    rw [show u = .slice a0 0 c0 from hu]
    exact reads_slice (b := 0) (o := 0) (by simp) (fun h => absurd (by simp) h) (fun i v h => by simp at h)
  · rename_i s
    rw [Tree.run_ofOpt] at h
    obtain ⟨e, _, e3⟩ := toL_vals h
    obtain ⟨g1, g2⟩ := strRows_vals (F := F) (P := P) (w := w) s
    refine ⟨_, rowVals_cast h g1, ?_⟩
    rw [e3, strRows_len, ← e, show u = .string s from hu]
    exact g2
  · cases h
end
end Go.Sz
