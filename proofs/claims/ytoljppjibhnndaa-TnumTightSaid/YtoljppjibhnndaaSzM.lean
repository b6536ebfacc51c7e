/-
  A symbolic machine for one call, with rows of any length: the operations that make or turn memory.
-/
import Derived.Test.YtoljppjibhnndaaSzL
namespace Go.Sz
open Go Go.RowKit Go.Sy
set_option linter.unusedVariables false
set_option linter.unusedSimpArgs false
set_option linter.constructorNameAsVariable false

theorem Mem.monoD {w0 : World} {S : Nat → Nat → Prop} {R0 : Frag} {D D' : Nat → Prop} {H : Hf} {F : Frag} {r : Loc} {w : World} (h : Mem w0 S R0 D H F r w) (hD : ∀ j, D j → D' j) : Mem w0 S R0 D' H F r w :=
  ⟨h.obs, fun j ob hj => hD j (h.dom j ob hj), fun j ob hj => by
    have := h.scp j ob hj
    cases ob <;> first | trivial | exact fun c hc => Cell.inn_mono hD (this c hc), h.disj, h.fin, h.fown, h.frame, h.fresh, h.base, h.prov⟩

def More (D : Nat → Prop) (nx n : Nat) (j : Nat) : Prop := D j ∨ (nx ≤ j ∧ j < nx + n)

/-- What holds behind an operation. -/
structure After (w0 : World) (S : Nat → Nat → Prop) (R0 : Frag) (D : Nat → Prop) (H : Hf) (F : Frag) (r : Loc) (nx : Nat) (eff : Eff) (F' : Frag) (r' : Loc) (w' : World) (v : Value) : Prop where
  agree : Loc.agree D r r'
  le : F.le F'
  mem : Mem w0 S R0 (More D nx eff.nn) (updH eff.ups H) F' r' w'
  res : ∀ av, eff.res = some av → av.rep F' r' v ∧ av.inn (More D nx eff.nn)

section
variable {w0 : World} {S : Nat → Nat → Prop} {R0 : Frag} {D : Nat → Prop} {H : Hf} {F : Frag} {r : Loc} {w : World}

/-- Cells in a new block. -/
theorem Mem.newLit (h : Mem w0 S R0 D H F r w) {nx : Nat} (hnx : ¬ D nx) {cs : List Cell} (hcs : ∀ c ∈ cs, c.inn D) {vs : List Value} (hr : cellsRep F r cs vs) (h1 : ∀ v ∈ vs, v.oneCell' = true) (t : TypeId) :
    Mem w0 S R0 (fun j => D j ∨ j = nx) (updH [(nx, .lit cs)] H) F (locPut r nx ⟨w.heap.size, 0, undef⟩) (w.alloc (.cells vs.toArray t)) := by
  have hB : Below w.heap.size w (w.alloc (.cells vs.toArray t)) := (Below.refl _ _).alloc (Nat.le_refl _) _
  have ha := locPut_agree r hnx ⟨w.heap.size, 0, undef⟩
  have hl := cellsRep_length hr
  refine h.fresh' hnx (js := []) (fun j hj => by cases hj) (d := ⟨w.heap.size, 0, undef⟩) ?_ (fun c hc => Cell.inn_mono (fun _ h => .inl h) (hcs c hc)) (fun b o hfo => .inr ?_) ((Fr.of_below hB _))
  · refine ⟨vs, cellsRep_to (Frag.le_refl F) ha hcs hr, fun i v hv => ?_, fun i hi => ?_, h1⟩
    · simp [hv]
    · have : vs[i]? = some (vs[i]'(by omega)) := List.getElem?_eq_getElem _
      simp [this]
  · obtain ⟨rfl, _⟩ := hfo; exact Nat.le_refl _

/-- A row in a new block; others die for it. -/
theorem Mem.newRow (h : Mem w0 S R0 D H F r w) {nx : Nat} (hnx : ¬ D nx) {js : List Nat} (hjs : ∀ j ∈ js, D j) {ts : Tys} {l : List ts.den} {vs : List Value} (hv : RowVals F ts l vs) {arr : Array Value} {rest : List Value} (harr : arr.toList = vs ++ rest)
    {cap : Nat} (hsz : arr.size = cap * ts.len) (hc : l.length ≤ cap) (hm : cap ≤ maxLen) {w1 : World} (hw1 : w1.heap = w.heap) (hB : Below w.heap.size w w1) (e : TypeId) (fz : Nat × Nat) (hfz : arr.size ≤ fz.1 ∨ fz.1 = fz.2) :
    Mem w0 S R0 (fun j => D j ∨ j = nx) (updH ((nx, .row ts l) :: deads js) H) F (locPut r nx ⟨w.heap.size, 0, .slice (some ⟨w.heap.size, 0, none⟩) l.length cap⟩) (w1.alloc (.cells arr e fz)) := by
  have hB' : Below w.heap.size w (w1.alloc (.cells arr e fz)) := hB.alloc (by rw [hw1]; exact Nat.le_refl _) _
  have hh : (w1.alloc (.cells arr e fz)).heap[w.heap.size]? = some (.cells arr e fz) := by
    show (w1.heap.push _)[w.heap.size]? = _
    rw [hw1]; simp
  have hcell : ∀ i, (w1.alloc (.cells arr e fz)).cell? ⟨w.heap.size, i, none⟩ = arr[i]? := fun i => by simp [World.cell?, hh]
  have hfr : ∀ i, i < arr.size → (w1.alloc (.cells arr e fz)).frozen? ⟨w.heap.size, i, none⟩ = false := fun i hi => by
    obtain ⟨a, b⟩ := fz
    simp only [World.frozen?, hh]
    rcases hfz with h | h
    · simp only at h
      have : ¬ a ≤ i := by omega
      simp [this]
    · simp only at h; subst h
      simp
  refine h.fresh' hnx hjs (d := ⟨w.heap.size, 0, .slice (some ⟨w.heap.size, 0, none⟩) l.length cap⟩) (obIs_row hv hc hm (fun i hi => ?_) (fun i v hv' => ?_)) trivial (fun b o hfo => .inr ?_) (Fr.of_below hB' _)
  · simp only [Nat.zero_add]
    rw [hcell, hfr i (by omega)]
    exact ⟨by simp; omega, rfl⟩
  · simp only [Nat.zero_add]
    rw [hcell, ← Array.getElem?_toList, harr, List.getElem?_append_left (List.getElem?_eq_some_iff.1 hv').1]
    exact hv'
  · obtain ⟨n, c, _, rfl, _⟩ := hfo; exact Nat.le_refl _
end

theorem More_one {D : Nat → Prop} {nx j : Nat} (h : D j ∨ j = nx) : More D nx 1 j := by
  rcases h with h | rfl
  · exact .inl h
  · exact .inr ⟨Nat.le_refl _, by omega⟩

/-! ### append -/
def appendT (P : Program) (H : Hf) (nx : Nat) (tys : List TypeId) (c1 c2 : Cell) (ts : Tys) : Tree Eff :=
  match tys with
  | [t1, t2] => match P.underlying t1, P.underlying t2 with
    | some (.slice e), some d2 => match P.info? e with
      | some i => match i.zero with
        | some z => bif isSlOrStr d2 && (Nat.beq i.size ts.len && (Nat.beq z.cells.size i.size && Nat.blt 0 i.size)) then
            (baseT H ts c1).bind fun b => (contT H ts c2).bind fun xs =>
              .ck (bytesOk (b.1.length + xs.length) i.bytes && Nat.ble (b.1.length + xs.length) 140737488355328) (.ret ⟨some (AV.c (.h nx)), (nx, .row ts (b.1 ++ xs)) :: deads b.2, 1⟩)
          else .fail
        | none => .fail
      | none => .fail
    | _, _ => .fail
  | _ => .fail

section
variable {P : Program} {w0 : World} {S : Nat → Nat → Prop} {R0 : Frag} {D : Nat → Prop} {H Hr : Hf} {F : Frag} {r : Loc} {w : World}

theorem appendT_run (hs : ∀ j ob, Hr j = some ob → H j = some ob) (hm : Mem w0 S R0 D H F r w) {nx : Nat} {eff : Eff} (hnx : ∀ j, nx ≤ j → j < nx + eff.nn → ¬ D j) {tys : Array TypeId} {c1 c2 : Cell} {ts : Tys} 
    (h : (appendT P Hr nx tys.toList c1 c2 ts).run = some eff) {u1 u2 : Value} (hu1 : c1.rep F r u1) (hu2 : c2.rep F r u2) (ty : TypeId) :
    ∃ v w' r', (Builtin.append_ tys ty #[u1, u2]).run P w = .ok v w' ∧ After w0 S R0 D H F r nx eff F r' w' v := by
  have hsees := hm.sees.sub hs
  unfold appendT at h
  split at h
  · rename_i t1 t2 hty
    have hty' : tys = #[t1, t2] := by apply Array.ext'; rw [hty]
    subst hty'
    split at h
    · rename_i e d2 ht1 ht2
      split at h
      · rename_i i hi
        split at h
        · rename_i z hz
          cases hb : (isSlOrStr d2 && (Nat.beq i.size ts.len && (Nat.beq z.cells.size i.size && Nat.blt 0 i.size))) with
          | false => rw [hb] at h; cases h
          | true =>
            rw [hb] at h
            simp only [cond_true] at h
            simp only [Bool.and_eq_true] at hb
            obtain ⟨hd2, hsz, hzs, hpos⟩ := hb
            have hsz := Nat.eq_of_beq_eq_true hsz
            have hzs := Nat.eq_of_beq_eq_true hzs
            obtain ⟨⟨l, js⟩, hbase, h⟩ := Tree.run_bind_some h
            obtain ⟨xs, hcont, h⟩ := Tree.run_bind_some h
            obtain ⟨hck, h⟩ := Tree.run_ck h
            simp only [Tree.run, Option.some.injEq] at h; subst h
            simp only [Bool.and_eq_true] at hck
            have hbytes : (l.length + xs.length) * i.bytes ≤ 140737488355328 := Nat.le_of_ble_eq_true hck.1
            have hsmall : l.length + xs.length ≤ 140737488355328 := Nat.le_of_ble_eq_true hck.2
            obtain ⟨a, b, o, cap, olds, rfl, B⟩ := baseT_run (P := P) hsees hbase hu1
            obtain ⟨vs, hvs, hreads⟩ := contT_run (P := P) hsees hcont hu2
            rw [← hsz] at hreads
            have hBr := B.reads
            rw [← hsz] at hBr
            have hjs : ∀ j ∈ js, D j := fun j hj => by
              obtain ⟨ob, ho⟩ := B.jsH j hj
              exact hm.dom j ob (hs j ob ho)
            have hfoot : ∀ bb p, (∃ j ob, j ∈ js ∧ Hr j = some ob ∧ ob.foot (r j) bb p) → ∃ j ob0, j ∈ js ∧ H j = some ob0 ∧ ob0.foot (r j) bb p := fun bb p ⟨j, ob, h1, h2, h3⟩ => ⟨j, ob, h1, hs j ob h2, h3⟩
            have hvals : RowVals F ts (l ++ xs) (olds ++ vs) := B.vals.append hvs
            by_cases hroom : l.length + xs.length ≤ cap
            · cases a with
              | none =>
                obtain ⟨h0, h0'⟩ := B.non rfl
                have hx0 : xs.length = 0 := by omega
                have hx : xs = [] := List.length_eq_zero_iff.1 hx0
                have hl0 : l.length = 0 := by rw [h0]; rfl
                refine ⟨.slice none 0 0, w, locPut r nx ⟨0, 0, .slice none 0 0⟩, ?_, locPut_agree r (hnx nx (Nat.le_refl _) (Nat.lt_succ_self _)) _, Frag.le_refl F, ?_, fun av hav => ?_⟩
                · rw [hl0, h0']
                  exact append_room_nil t1 t2 ty e i d2 ht1 hi ht2 hd2 w xs.length u2 vs hreads hx0
                · refine (hm.fresh' (hnx nx (Nat.le_refl _) (Nat.lt_succ_self _)) hjs (d := ⟨0, 0, .slice none 0 0⟩) (ob := .row ts (l ++ xs)) (.inl ⟨rfl, by rw [h0, hx]; rfl⟩) trivial (fun b o hfo => ?_) (Fr.refl _ _)).monoD (fun j => More_one)
                  obtain ⟨n, c, hh, _⟩ := hfo; cases hh
                · injection hav with hav; subst hav
                  exact ⟨⟨by rw [locPut_self], rfl⟩, More_one (.inr rfl)⟩
              | some a =>
                have hp := B.ptr (by simp)
                injection hp with hp; subst hp
                have hlen : olds.length = l.length * ts.len := B.vals.len
                have hvl : vs.length = xs.length * ts.len := hvs.len
                have hmul : l.length * ts.len + xs.length * ts.len ≤ cap * ts.len := by rw [← Nat.add_mul]; exact Nat.mul_le_mul_right _ hroom
                have hth := B.there (by simp)
                have hth' : w.there b (o + l.length * i.size) vs.length := fun q hq => by
                  have := hth (l.length * ts.len + q) (by omega)
                  rw [← Nat.add_assoc] at this; rw [hsz]; exact this
                have hrun := append_room t1 t2 ty e i d2 ht1 hi ht2 hd2 w b o l.length cap xs.length u2 vs hreads hroom hvs.one hth'
                refine ⟨_, _, locPut r nx ⟨b, o, .slice (some ⟨b, o, none⟩) (l.length + xs.length) cap⟩, hrun, locPut_agree r (hnx nx (Nat.le_refl _) (Nat.lt_succ_self _)) _, Frag.le_refl F, ?_, fun av hav => ?_⟩
                · have hfr : Fr (fun b' o' => b' = b ∧ o + l.length * i.size ≤ o' ∧ o' < o + l.length * i.size + vs.length) w (w.setCells b (o + l.length * i.size) vs) := Fr.setCells w _ _ vs hth'
                  refine (hm.fresh' (hnx nx (Nat.le_refl _) (Nat.lt_succ_self _)) hjs (d := ⟨b, o, .slice (some ⟨b, o, none⟩) (l.length + xs.length) cap⟩) (ob := .row ts (l ++ xs)) ?_ trivial (fun bb p hfo => ?_) (hfr.mono fun bb p _ hh => ?_)).monoD (fun j => More_one)
                  · have hlen2 : (l ++ xs).length = l.length + xs.length := by simp
                    rw [← hlen2]
                    refine obIs_row hvals (by rw [hlen2]; exact hroom) B.max (World.there_setCells hth _ _ _) (fun q v hq => ?_)
                    rw [hsz]
                    by_cases hq' : q < olds.length
                    · rw [List.getElem?_append_left hq'] at hq
                      rw [World.cell?_setCells_out b vs _ w ⟨b, o + q, none⟩ (fun _ _ => .inl (by simp only []; omega))]
                      exact B.at_ (by simp) q v hq
                    · rw [List.getElem?_append_right (by omega)] at hq
                      have := World.rangeAt_setCells_same w b (o + l.length * i.size) vs hth' _ v hq
                      rw [hsz] at this
                      rw [← this]; congr 2; omega
                  · obtain ⟨n, c, hh, rfl, p1, p2⟩ := hfo
                    injection hh with _ _ hh; subst hh
                    exact .inl (hfoot _ _ (B.foot (by simp) p p1 p2))
                  · obtain ⟨rfl, p1, p2⟩ := hh
                    rw [hsz] at p1 p2
                    exact hfoot _ _ (B.foot (by simp) p (by omega) (by omega))
                · injection hav with hav; subst hav
                  exact ⟨⟨by rw [locPut_self], rfl⟩, More_one (.inr rfl)⟩
            · have h63 : l.length + xs.length ≤ maxLen := Nat.le_trans hsmall (by decide)
              have hrun := append_grow t1 t2 ty e i z d2 ht1 hi hz ht2 hd2 w a l.length cap xs.length u2 vs olds hreads hBr (by omega) h63 hbytes
              have hge := grownCap_ge w (l.length + xs.length) cap e
              have hcm := grownCap_le_maxLen w (l.length + xs.length) cap e h63
              generalize grownCap w (l.length + xs.length) cap e = gc at hrun hge hcm
              have hlen2 : (l ++ xs).length = l.length + xs.length := by simp
              rw [← hlen2] at hrun hge
              refine ⟨_, _, _, hrun, locPut_agree r (hnx nx (Nat.le_refl _) (Nat.lt_succ_self _)) _, Frag.le_refl F, (hm.newRow (hnx nx (Nat.le_refl _) (Nat.lt_succ_self _)) hjs hvals (rest := (Builtin.zeroCells z.cells (gc - (l ++ xs).length)).toList) (by simp) ?_ hge hcm (w1 := w.drew) rfl ((Below.refl _ _).drew) e (0, 0) (.inr rfl)).monoD (fun j => More_one), fun av hav => ?_⟩
              · simp only [Array.size_append, List.size_toArray, size_zeroCells, hzs, hsz, B.vals.len, hvs.len]
                rw [← Nat.add_mul, ← Nat.add_mul]
                congr 1
                simp at hge ⊢; omega
              · injection hav with hav; subst hav
                exact ⟨⟨by rw [locPut_self], rfl⟩, More_one (.inr rfl)⟩
        · cases h
      · cases h
    · cases h
  · cases h
end
end Go.Sz
