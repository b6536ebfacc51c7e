/-
  A symbolic machine for one call, with rows of any length: what is lent to a function that only reads it.
-/
import Derived.Test.YtoljppjibhnndaaSzS
namespace Go.Sz
open Go Go.RowKit Go.Sy
set_option linter.unusedVariables false
set_option linter.unusedSimpArgs false
set_option linter.constructorNameAsVariable false

/-- F and what is lent. -/
noncomputable def Fplus (F : Frag) (w : World) (Q : Nat → Nat → Prop) : Frag := by
  classical
  exact fun b o => match F b o with
    | some v => some v
    | none => if Q b o then w.cell? ⟨b, o, none⟩ else none

theorem Fplus_le (F : Frag) (w : World) (Q : Nat → Nat → Prop) : F.le (Fplus F w Q) := fun b o v hv => by simp [Fplus, hv]
theorem Fplus_get {F : Frag} {w : World} {Q : Nat → Nat → Prop} {b o : Nat} {v : Value} (h : Fplus F w Q b o = some v) : F b o = some v ∨ (Q b o ∧ w.cell? ⟨b, o, none⟩ = some v) := by
  simp only [Fplus] at h
  split at h
  · rename_i v' hv'; injection h with h; subst h; exact .inl hv'
  · split at h
    · rename_i hq; exact .inr ⟨hq, h⟩
    · cases h
theorem Fplus_new {F : Frag} {w : World} (hF : F.le (memF w)) {Q : Nat → Nat → Prop} {b o : Nat} {v : Value} (hq : Q b o) (h : w.cell? ⟨b, o, none⟩ = some v) : Fplus F w Q b o = some v := by
  simp only [Fplus]
  cases hf : F b o with
  | some v' =>
    have := hF _ _ _ hf
    simp only [memF] at this
    rw [h] at this; simpa using this.symm
  | none => simp [hq, h]

/-! ### Slices seen as data -/
def viewT (H : Hf) (ts : Tys) : Cell → Tree (List ts.den × List Nat)
  | .d _ l => match toL ts l with
    | some l' => .ret (l', [])
    | none => .fail
  | .h j => match H j with
    | some (.row _ l) => match toL ts l with
      | some l' => .ret (l', [j])
      | none => .fail
    | some (.frz _ l) => match toL ts l with
      | some l' => .ret (l', [])
      | none => .fail
    | _ => .fail
  | .hs j sz lo n mx => match H j with
    | some (.row _ l) => match toL ts l with
      | some l' => .ck (Nat.ble (lo + n) l'.length && (Nat.beq sz ts.len && (match mx with | none => true | some m => Nat.ble (lo + n) m && Nat.ble m l'.length))) (.ret (cut l' lo (lo + n), [j]))
      | none => .fail
    | _ => .fail
  | .s j off sz n cap => match H j with
    | some (.lit l) => bif Nat.beq sz ts.len && (Nat.ble n cap && Nat.ble cap 140737488355328) then match litRows ts n (l.drop off) with
        | some xs => .ret (xs, [j])
        | none => .fail
      else .fail
    | _ => .fail
  | .v (.slice none 0 0) => .ret ([], [])
  | _ => .fail

def viewD (H : Hf) : (t : Ty) → Cell → Tree (t.den × List Nat)
  | .sl ts, c => viewT H ts c
  | .w k, c => match ofCell (.w k) c with
    | some x => .ret (x, [])
    | none => .fail
  | .i k, c => match ofCell (.i k) c with
    | some x => .ret (x, [])
    | none => .fail
  | .b, c => match ofCell .b c with
    | some x => .ret (x, [])
    | none => .fail
  | .str, c => match ofCell .str c with
    | some x => .ret (x, [])
    | none => .fail

def viewDs (H : Hf) : (ts : Tys) → List Cell → Tree (ts.den × List Nat)
  | .nil, [] => .ret ((), [])
  | .cons t ts, c :: cs => (viewD H t c).bind fun x => (viewDs H ts cs).bind fun xs => .ret ((x.1, xs.1), x.2 ++ xs.2)
  | _, _ => .fail

/-- What the objects js have. -/
def Lent (H : Hf) (r : Loc) (js : List Nat) (b o : Nat) : Prop := ∃ j ob, j ∈ js ∧ H j = some ob ∧ ob.foot (r j) b o

section
variable {F : Frag} {r : Loc} {D : Nat → Prop} {w : World} {H : Hf}

theorem repT_of {F' : Frag} {ts : Tys} {l : List ts.den} {vs : List Value} (h : RowVals F' ts l vs) {a : Option Addr} {b o cap : Nat} (h1 : l.length ≤ cap) (h2 : cap ≤ maxLen) (ha : l ≠ [] → a = some ⟨b, o, none⟩) (hc : ∀ i v, vs[i]? = some v → F' b (o + i) = some v) :
    RepT F' (.sl ts) l (.slice a l.length cap) := by
  simp only [RepT]
  exact ⟨a, cap, rfl, h1, h2, fun hl => ⟨b, o, ha hl, h.lies hc⟩⟩

theorem repT_ext {F F' : Frag} (h : F.le F') {ts : Tys} {l : List ts.den} {u : Value} (hu : RepT F (.sl ts) l u) : RepT F' (.sl ts) l u := hu.mono h

theorem toL_rep' {ts ts' : Tys} {l : List ts.den} {l' : List ts'.den} (h : toL ts' l = some l') {u : Value} (hu : RepT F (.sl ts) l u) : RepT F (.sl ts') l' u := toL_rep h hu

theorem Lent.mono {js js' : List Nat} (hj : ∀ j ∈ js, j ∈ js') {b o : Nat} (h : Lent H r js b o) : Lent H r js' b o := by
  obtain ⟨j, ob, h1, h2, h3⟩ := h
  exact ⟨j, ob, hj j h1, h2, h3⟩

theorem viewT_run (hs : Sees F r D H w) {ts : Tys} {c : Cell} {l : List ts.den} {js : List Nat} (h : (viewT H ts c).run = some (l, js)) {u : Value} (hu : c.rep F r u) {Q : Nat → Nat → Prop} (hQ : ∀ b o, Lent H r js b o → Q b o) :
    RepT (Fplus F w Q) (.sl ts) l u ∧ ∀ j ∈ js, ∃ ob, H j = some ob := by
  have hle := Fplus_le F w Q
  unfold viewT at h
  split at h
  · rename_i ts' l0
    split at h
    · rename_i l' hl
      simp only [Tree.run, Option.some.injEq, Prod.mk.injEq] at h
      obtain ⟨rfl, rfl⟩ := h
      exact ⟨(toL_rep hl (show RepT F (.sl ts') l0 u from hu)).mono hle, fun j hj => by cases hj⟩
    · cases h
  · rename_i j
    split at h
    · rename_i ts' l0 hj
      split at h
      · rename_i l' hl
        simp only [Tree.run, Option.some.injEq, Prod.mk.injEq] at h
        obtain ⟨rfl, rfl⟩ := h
        refine ⟨?_, fun j' hj' => by simp at hj'; subst hj'; exact ⟨_, hj⟩⟩
        obtain ⟨e, _, e3⟩ := toL_vals hl
        subst e
        obtain ⟨vs, g1, g2⟩ := row_vals (hs.obs j _ hj)
        have g1' := (rowVals_cast hl g1).mono hle
        rw [hu.1]
        rcases row_nil (hs.obs j _ hj) with ⟨k1, k2⟩ | ⟨cap, k1, k2, k3, k4⟩
        · have h0 : l' = [] := List.length_eq_zero_iff.1 (by rw [e3, k2]; rfl)
          rw [k1, h0]; exact repT_nil _
        · rw [k1, ← e3]
          refine repT_of g1' (by rw [e3]; exact k2) k3 (fun _ => rfl) (fun i v hv => Fplus_new hs.fin (hQ _ _ ⟨j, _, by simp, hj, _, _, k1, rfl, by omega, ?_⟩) (g2 i v hv))
          have hi := (List.getElem?_eq_some_iff.1 hv).1
          have : l0.length * ts'.len ≤ cap * ts'.len := Nat.mul_le_mul_right _ k2
          rw [g1.len] at hi; omega
      · cases h
    · rename_i ts' l0 hj
      split at h
      · rename_i l' hl
        simp only [Tree.run, Option.some.injEq, Prod.mk.injEq] at h
        obtain ⟨rfl, rfl⟩ := h
        refine ⟨?_, fun j hj => by cases hj⟩
        rw [hu.1]
        exact (toL_rep hl (show RepT F (.sl ts') l0 (r j).hv from hs.obs j _ hj)).mono hle
      · cases h
    · cases h
  · rename_i j sz lo n mx
    split at h
    · rename_i ts' l0 hj
      split at h
      · rename_i l' hl
        obtain ⟨hck, h⟩ := Tree.run_ck h
        simp only [Tree.run, Option.some.injEq, Prod.mk.injEq] at h
        obtain ⟨rfl, rfl⟩ := h
        refine ⟨?_, fun j' hj' => by simp at hj'; subst hj'; exact ⟨_, hj⟩⟩
        simp only [Bool.and_eq_true] at hck
        have hlelen : lo + n ≤ l'.length := Nat.le_of_ble_eq_true hck.1
        have hsz : sz = ts.len := Nat.eq_of_beq_eq_true hck.2.1
        obtain ⟨e, _, e3⟩ := toL_vals hl
        subst e
        obtain ⟨vs, g1, g2⟩ := row_vals (hs.obs j _ hj)
        have g1' := (rowVals_cast hl g1).mono hle
        have hlen : (cut l' lo (lo + n)).length = n := by simp [cut]; omega
        have hc := g1'.cut (lo := lo) (hi := lo + n) (by omega) hlelen
        have hne0 : ∀ {cap : Nat}, cut l' lo (lo + n) ≠ [] → l0.length ≤ cap → mx.getD cap ≠ lo := fun {cap} hne hcap => by
          have hn : n ≠ 0 := fun e => hne (List.length_eq_zero_iff.1 (by rw [hlen, e]))
          cases mx with
          | none => simp; omega
          | some m =>
            have h2 := hck.2.2
            simp only [Bool.and_eq_true] at h2
            have h3 : lo + n ≤ m := Nat.le_of_ble_eq_true h2.1
            simp; omega
        rw [hu.1]
        rcases row_nil (hs.obs j _ hj) with ⟨k1, k2⟩ | ⟨cap, k1, k2, k3, k4⟩
        · have h0 : cut l' lo (lo + n) = [] := List.length_eq_zero_iff.1 (by rw [hlen]; rw [e3, k2] at hlelen; simp at hlelen; omega)
          have hn0 : n = 0 := by rw [h0] at hlen; simpa using hlen.symm
          have hlo0 : lo = 0 := by rw [e3, k2] at hlelen; simp at hlelen; omega
          rw [h0, k1]
          simp only [subHdr, RepT]
          refine ⟨_, _, by rw [hn0]; rfl, Nat.zero_le _, ?_, fun h => absurd rfl h⟩
          cases mx with
          | none => simp
          | some m =>
            have h2 := hck.2.2
            simp only [Bool.and_eq_true] at h2
            have h4 : m ≤ l'.length := Nat.le_of_ble_eq_true h2.2
            rw [e3, k2] at h4; simp at h4 ⊢; omega
        · have hM : lo + n ≤ mx.getD cap ∧ mx.getD cap ≤ cap := by
            cases mx with
            | none => simp; omega
            | some m =>
              have h2 := hck.2.2
              simp only [Bool.and_eq_true] at h2
              have h3 : lo + n ≤ m := Nat.le_of_ble_eq_true h2.1
              have h4 : m ≤ l'.length := Nat.le_of_ble_eq_true h2.2
              simp; omega
          rw [k1]
          simp only [subHdr]
          have hres := repT_of (a := if mx.getD cap = lo then some (⟨(r j).b, (r j).o, none⟩ : Addr) else Option.map (fun x : Addr => x.add (lo * sz)) (some (⟨(r j).b, (r j).o, none⟩ : Addr))) (b := (r j).b) (o := (r j).o + lo * ts'.len) (cap := mx.getD cap - lo) hc (by rw [hlen]; omega) (by omega) (fun hne => by rw [if_neg (hne0 hne k2), hsz]; simp [Addr.add_mid]) (fun i v hv => ?_)
          · rw [hlen] at hres; exact hres
          · have hi : i < (lo + n - lo) * ts'.len := by
              have := (List.getElem?_eq_some_iff.1 hv).1
              rw [List.length_take] at this
              exact Nat.lt_of_lt_of_le this (Nat.min_le_left _ _)
            rw [List.getElem?_take, if_pos hi, List.getElem?_drop] at hv
            have h5 := g2 _ v hv
            rw [← Nat.add_assoc] at h5
            refine Fplus_new hs.fin (hQ _ _ ⟨j, _, by simp, hj, _, _, k1, rfl, by omega, ?_⟩) h5
            have hi2 := (List.getElem?_eq_some_iff.1 hv).1
            have : l0.length * ts'.len ≤ cap * ts'.len := Nat.mul_le_mul_right _ k2
            rw [g1.len] at hi2; omega
      · cases h
    · cases h
  · rename_i j off sz n cap
    split at h
    · rename_i l0 hj
      cases hb : (Nat.beq sz ts.len && (Nat.ble n cap && Nat.ble cap 140737488355328)) with
      | false => rw [hb] at h; cases h
      | true =>
        rw [hb] at h
        simp only [cond_true] at h
        simp only [Bool.and_eq_true] at hb
        split at h
        · rename_i xs hxs
          simp only [Tree.run, Option.some.injEq, Prod.mk.injEq] at h
          obtain ⟨rfl, rfl⟩ := h
          refine ⟨?_, fun j' hj' => by simp at hj'; subst hj'; exact ⟨_, hj⟩⟩
          obtain ⟨us, k1, k2, k3, k4⟩ := hs.obs j _ hj
          obtain ⟨g1, g2, g3⟩ := litRows_vals hxs (cellsRep_drop off k1) (fun v hv => k4 v (List.mem_of_mem_drop hv))
          have hul := cellsRep_length k1
          rw [show u = _ from hu, ← g1]
          refine repT_of (g3.mono hle) (by rw [g1]; exact Nat.le_of_ble_eq_true hb.2.1) (Nat.le_trans (Nat.le_of_ble_eq_true hb.2.2) (by decide)) (fun _ => rfl) (fun i v hv => ?_)
          have hi : i < n * ts.len := by
            have := (List.getElem?_eq_some_iff.1 hv).1
            rw [List.length_take] at this
            exact Nat.lt_of_lt_of_le this (Nat.min_le_left _ _)
          rw [List.getElem?_take, if_pos hi, List.getElem?_drop] at hv
          have h5 := k2 _ v hv
          rw [← Nat.add_assoc] at h5
          have hi2 := (List.getElem?_eq_some_iff.1 hv).1
          exact Fplus_new hs.fin (hQ _ _ ⟨j, _, by simp, hj, rfl, by omega, by omega⟩) h5
        · cases h
    · cases h
  · simp only [Tree.run, Option.some.injEq, Prod.mk.injEq] at h
    obtain ⟨rfl, rfl⟩ := h
    refine ⟨?_, fun j hj => by cases hj⟩
    rw [show u = .slice none 0 0 from hu]
    exact repT_nil _
  · cases h

theorem viewD_run (hs : Sees F r D H w) {t : Ty} {c : Cell} {x : t.den} {js : List Nat} (h : (viewD H t c).run = some (x, js)) {u : Value} (hu : c.rep F r u) {Q : Nat → Nat → Prop} (hQ : ∀ b o, Lent H r js b o → Q b o) :
    RepT (Fplus F w Q) t x u ∧ ∀ j ∈ js, ∃ ob, H j = some ob := by
  have hle := Fplus_le F w Q
  cases t with
  | sl ts => exact viewT_run hs h hu hQ
  | w k =>
    simp only [viewD] at h
    split at h
    · rename_i y hy
      simp only [Tree.run, Option.some.injEq, Prod.mk.injEq] at h
      obtain ⟨rfl, rfl⟩ := h
      exact ⟨(ofCell_rep hy hu).mono hle, fun j hj => by cases hj⟩
    · cases h
  | i k =>
    simp only [viewD] at h
    split at h
    · rename_i y hy
      simp only [Tree.run, Option.some.injEq, Prod.mk.injEq] at h
      obtain ⟨rfl, rfl⟩ := h
      exact ⟨(ofCell_rep hy hu).mono hle, fun j hj => by cases hj⟩
    · cases h
  | b =>
    simp only [viewD] at h
    split at h
    · rename_i y hy
      simp only [Tree.run, Option.some.injEq, Prod.mk.injEq] at h
      obtain ⟨rfl, rfl⟩ := h
      exact ⟨(ofCell_rep hy hu).mono hle, fun j hj => by cases hj⟩
    · cases h
  | str =>
    simp only [viewD] at h
    split at h
    · rename_i y hy
      simp only [Tree.run, Option.some.injEq, Prod.mk.injEq] at h
      obtain ⟨rfl, rfl⟩ := h
      exact ⟨(ofCell_rep hy hu).mono hle, fun j hj => by cases hj⟩
    · cases h

theorem viewDs_run (hs : Sees F r D H w) : ∀ {ts : Tys} {cs : List Cell} {x : ts.den} {js : List Nat} {us : List Value}, (viewDs H ts cs).run = some (x, js) → cellsRep F r cs us → ∀ {Q : Nat → Nat → Prop}, (∀ b o, Lent H r js b o → Q b o) →
    us.length = ts.len ∧ (∀ {G : Frag} {b o : Nat}, (∀ i v, us[i]? = some v → G b (o + i) = some v) → RepC G (Fplus F w Q) b o ts x) ∧ ∀ j ∈ js, ∃ ob, H j = some ob
  | .nil, [], x, js, us, h, hu, Q, hQ => by
    simp only [viewDs, Tree.run, Option.some.injEq, Prod.mk.injEq] at h
    obtain ⟨_, rfl⟩ := h
    cases us with
    | nil => exact ⟨rfl, fun {G b o} _ => by simp only [RepC], fun j hj => by cases hj⟩
    | cons a b => exact hu.elim
  | .nil, _ :: _, _, _, _, h, _, _, _ => by cases h
  | .cons _ _, [], _, _, _, h, _, _, _ => by cases h
  | .cons t ts, c :: cs, x, js, us, h, hu, Q, hQ => by
    simp only [viewDs] at h
    obtain ⟨⟨y, jy⟩, hy, h⟩ := Tree.run_bind_some h
    obtain ⟨⟨ys, jys⟩, hys, h⟩ := Tree.run_bind_some h
    simp only [Tree.run, Option.some.injEq, Prod.mk.injEq] at h
    obtain ⟨rfl, rfl⟩ := h
    cases us with
    | nil => exact hu.elim
    | cons u us =>
      obtain ⟨g1, g2⟩ := viewD_run hs hy hu.1 (Q := Q) (fun b o hl => hQ b o (hl.mono fun j hj => List.mem_append_left _ hj))
      obtain ⟨k1, k2, k3⟩ := viewDs_run hs hys hu.2 (Q := Q) (fun b o hl => hQ b o (hl.mono fun j hj => List.mem_append_right _ hj))
      refine ⟨by simp [k1, Tree.run, Tys.len], fun {G b o} hG => ?_, fun j hj => ?_⟩
      · simp only [RepC]
        refine ⟨⟨u, by simpa using hG 0 u rfl, g1⟩, k2 fun i v hv => ?_⟩
        have := hG (i + 1) v (by simpa using hv)
        rw [← this]; congr 1; omega
      · rcases List.mem_append.1 hj with hj | hj
        · exact g2 j hj
        · exact k3 j hj
end
end Go.Sz
