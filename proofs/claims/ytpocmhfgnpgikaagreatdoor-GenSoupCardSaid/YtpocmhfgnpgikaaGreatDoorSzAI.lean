/-
  A symbolic machine for one call, with rows of any length: rows of numbers that the library sorts, or takes repeated ones out of.
-/
import Derived.Test.YtpocmhfgnpgikaaGreatDoorSzAH
import Derived.Lib.RowBridge
import Derived.Lib.SlicesCompact
import Derived.Sort.Grow
noncomputable section
namespace Go.Sz
open Go Go.RowKit Go.Sy Go.Sort Go.Lib Go.Proofs
set_option linter.unusedVariables false
set_option linter.unusedSimpArgs false
@[reducible] def i64T : Tys := .cons (.i .i64) .nil
abbrev I64s := List (Int × Unit)
section
variable {w0 : World} {S : Nat → Nat → Prop} {R0 : Frag} {D : Nat → Prop} {H : Hf} {F : Frag} {r : Loc} {w : World}
theorem Mem.drewN (h : Mem w0 S R0 D H F r w) (n : Nat) : Mem w0 S R0 D H F r (w.drewN n) :=
  ⟨fun j ob hj => by have := h.obs j ob hj; cases ob <;> exact this, h.dom, h.scp, h.disj, h.fin, h.fown, ⟨h.frame.os, h.frame.tape, h.frame.output, h.frame.size, h.frame.cell, h.frame.frozen, h.frame.block⟩, h.fresh, h.base, h.prov⟩
theorem Fr.grow (S : Nat → Nat → Prop) (w : World) (os : Array Obj) : Fr S w (grow w os) where
  os := rfl
  tape := rfl
  output := rfl
  size := by simp [Go.Sort.grow]
  cell b o hb _ := by simp only [World.cell?, Go.Sort.grow, Array.getElem?_append_left hb]
  frozen b o hb := by simp only [World.frozen?, Go.Sort.grow, Array.getElem?_append_left hb]
  block b hb _ := by simp only [Go.Sort.grow, Array.getElem?_append_left hb]
theorem Mem.grow (h : Mem w0 S R0 D H F r w) (os : Array Obj) : Mem w0 S R0 D H F r (Go.Sort.grow w os) :=
  h.step (T := fun _ => False) (fun _ h => h) (fun _ _ => rfl) (fun j ob _ hj => hj) (fun _ _ h => h.elim) (fun _ _ _ _ h => h.elim) (fun _ _ _ _ _ _ h => h.elim) (Fr.grow _ w os) (Frag.le_refl F) (fun b o v hv => .inl hv)
end
theorem locPut_other (r : Loc) {n j : Nat} (h : j ≠ n) (x : Ld) : locPut r n x j = r j := by simp [locPut, h]
theorem row_cells {F : Frag} {d : Ld} {w : World} {l : I64s} {cap : Nat} (h2 : l.length ≤ cap) (h4 : w.there d.b d.o (cap * i64T.len)) (h5 : ∀ i x, l[i]? = some x → RepC (memF w) F d.b (d.o + i * i64T.len) i64T x) :
    Go.Sort.Holds (Value.int .i64) w d.b d.o (l.map (·.1)).toArray := fun j hj => by
  have hj' : j < l.length := by simpa using hj
  have hr := h5 j _ (List.getElem?_eq_getElem hj')
  simp only [RepC, RepT, memF, Tys.len, Nat.zero_add, Nat.mul_one] at hr
  obtain ⟨⟨v, g1, rfl⟩, _⟩ := hr
  refine ⟨?_, (h4 j (by simp only [Tys.len]; omega)).2⟩
  rw [g1]
  simp [hj']
theorem cells_row {F : Frag} {b o : Nat} {G : Frag} {ys : List Int} (h : ∀ i v, (ys.map (Value.int .i64))[i]? = some v → G b (o + i) = some v) :
    ∀ i x, (ys.map fun x => (x, ()))[i]? = some x → RepC G F b (o + i * i64T.len) i64T x := fun i x hx => by
  rw [List.getElem?_map] at hx
  cases hy : ys[i]? with
  | none => rw [hy] at hx; cases hx
  | some y =>
    rw [hy] at hx
    simp only [Option.map_some, Option.some.injEq] at hx
    subst hx
    simp only [RepC, RepT, Tys.len, Nat.zero_add, Nat.mul_one, and_true]
    exact ⟨_, h i _ (by rw [List.getElem?_map, hy]; rfl), rfl⟩
def sorted (l : I64s) : I64s := ((l.map (·.1)).mergeSort fun x y => decide (x ≤ y)).map fun x => (x, ())
def once (l : I64s) : I64s := (compact (l.map (·.1))).map fun x => (x, ())
noncomputable def sortS : Summ := sumT [.any] false [.c (.h 0)] [.row i64T] fun _ y => match y with
  | (l, ()) => ckP (0 < l.length ∧ l.length ≤ 1000000) (.ret (AV.t [], [.row i64T (sorted l)]))
noncomputable def compactS : Summ := sumT [.any] false [.c (.h 0)] [.row i64T] fun _ y => match y with
  | (l, ()) => ckP (0 < l.length ∧ l.length ≤ 1000000) (.ret (AV.c (.h 1), [.dead, .row i64T (once l)]))
theorem sorted_len (l : I64s) : (sorted l).length = l.length := by simp [sorted]
theorem one_row {args : List AV} {H : List Ob} {x : denAs [.c (.h 0)]} {y : denObs [.row i64T]} (hx : decAs [.c (.h 0)] args = some x) (hy : decOs [.row i64T] H = some y) : args = [AV.c (.h 0)] ∧ H = [.row i64T y.1] := by
  refine ⟨?_, ?_⟩
  · have := decAs_eq hx; rw [this]; rfl
  · have := decOs_eq hy; rw [this]; rfl
section
variable {K : Know} {P : Program}
theorem sort_ok {f : FuncId} {fn : Func} (hf : P.funcs[f]? = some fn) (hn : (fn.name == "runtime.NumGoroutine") = false) (hb : fn.body.isNone = false)
    (h : ∀ (blk off cap : Nat) (zs : List Int) (w : World), Go.Sort.Holds (Value.int .i64) w blk off zs.toArray → blk < w.heap.size → zs.length < 4611686018427387904 →
      Calls P f #[.slice (some ⟨blk, off, none⟩) zs.length cap] w fun e w' => e = .returned (.tuple #[]) ∧ ∃ n os, w' = grow (putRow (Value.int .i64) (Sort.ahead w n) blk off (zs.mergeSort fun x y => decide (x ≤ y)).toArray) os) : SummOk K P f sortS :=
  .inr ⟨⟨fn, hf, hn, hb⟩, fun args H H' v hg _ F r w us _ hpre ha hi => by
    simp only [sortS, sumT] at hg
    split at hg
    · rename_i x y hx hy
      obtain ⟨rfl, rfl⟩ := one_row hx hy
      obtain ⟨l, _⟩ := y
      obtain ⟨⟨hl, hl2⟩, hg⟩ := ckP_run hg
      change 0 < l.length at hl
      change l.length ≤ 1000000 at hl2
      simp only [Tree.run, Option.some.injEq, Prod.mk.injEq] at hg
      obtain ⟨rfl, rfl⟩ := hg
      match us, ha with
      | [u], ha =>
        obtain ⟨⟨rfl, _⟩, _⟩ := ha
        have hmem : Mem w (OwnL (nthH [Ob.row i64T l]) r) F (fun j => j < 1) (nthH [Ob.row i64T l]) F r w := hpre
        have hj : nthH [Ob.row i64T l] 0 = some (.row i64T l) := rfl
        rcases hmem.obs 0 _ hj with ⟨_, rfl⟩ | ⟨cap, h1, h2, h3, h4, h5⟩
        · cases hl
        · have hH := row_cells h2 h4 h5
          have hb0 : (r 0).b < w.heap.size := by
            have := (hH 0 (by simpa using hl)).1
            exact World.cell_lt w this
          have hc := h (r 0).b (r 0).o cap (l.map (·.1)) w hH hb0 (by rw [List.length_map]; omega)
          rw [List.length_map] at hc
          rw [h1]
          refine hc.mono fun e w' he => ?_
          obtain ⟨rfl, n, os, rfl⟩ := he
          have hys : ((l.map (·.1)).mergeSort fun x y => decide (x ≤ y)).length = l.length := by simp
          rw [putRow_eq_setCells (Value.int .i64) w (r 0).b (r 0).o (l.map (·.1)).toArray _ n hH (by simp)]
          have hm := (hmem.drewN n).setRow (ts := i64T) (l' := sorted l) hj (by intro e; rw [e] at hl; cases hl) (us := ((l.map (·.1)).mergeSort fun x y => decide (x ≤ y)).map (Value.int .i64)) (p := 0) (sorted_len l)
            (by rw [List.length_map, hys]; simp [Tys.len]) (fun G hG _ => cells_row (fun i v hv => by simpa using hG i v hv))
          refine ⟨_, F, r, (EndIs.mk rfl), ?_, ⟨[], trivial, rfl⟩, (fun _ h => by cases h), fun _ _ => rfl, Nat.le_refl _⟩
          have hm := hm.grow os
          have e : updH [(0, Ob.row i64T (sorted l))] (nthH [Ob.row i64T l]) = nthH [Ob.row i64T (sorted l)] := by
            funext j
            rw [updH_cons]
            cases j with
            | zero => rfl
            | succ j => rfl
          rw [e] at hm
          exact hm
    · cases hg⟩
theorem compact_ok {f : FuncId} {fn : Func} (hf : P.funcs[f]? = some fn) (hn : (fn.name == "runtime.NumGoroutine") = false) (hb : fn.body.isNone = false)
    (h : ∀ (blk off cap : Nat) (zs : List Int) (w : World), Go.Sort.Holds (Value.int .i64) w blk off zs.toArray → zs.length ≤ 9223372036854775807 → zs.length ≤ cap →
      Calls P f #[.slice (some ⟨blk, off, none⟩) zs.length cap] w fun e w' => e = .returned (.slice (some ⟨blk, off, none⟩) (Lib.compact zs).length cap) ∧ ∃ q, w' = putRow (Value.int .i64) (Sort.ahead w q) blk off (Lib.compact zs ++ List.replicate (zs.length - (Lib.compact zs).length) 0).toArray) : SummOk K P f compactS :=
  .inr ⟨⟨fn, hf, hn, hb⟩, fun args H H' v hg _ F r w us _ hpre ha hi => by
    simp only [compactS, sumT] at hg
    split at hg
    · rename_i x y hx hy
      obtain ⟨rfl, rfl⟩ := one_row hx hy
      obtain ⟨l, _⟩ := y
      obtain ⟨⟨hl, hl2⟩, hg⟩ := ckP_run hg
      change 0 < l.length at hl
      change l.length ≤ 1000000 at hl2
      simp only [Tree.run, Option.some.injEq, Prod.mk.injEq] at hg
      obtain ⟨rfl, rfl⟩ := hg
      match us, ha with
      | [u], ha =>
        obtain ⟨⟨rfl, _⟩, _⟩ := ha
        have hmem : Mem w (OwnL (nthH [Ob.row i64T l]) r) F (fun j => j < 1) (nthH [Ob.row i64T l]) F r w := hpre
        have hj : nthH [Ob.row i64T l] 0 = some (.row i64T l) := rfl
        rcases hmem.obs 0 _ hj with ⟨_, rfl⟩ | ⟨cap, h1, h2, h3, h4, h5⟩
        · cases hl
        · have hH := row_cells h2 h4 h5
          have hc := h (r 0).b (r 0).o cap (l.map (·.1)) w hH (by rw [List.length_map]; omega) (by rw [List.length_map]; omega)
          rw [List.length_map] at hc
          rw [h1]
          refine hc.mono fun e w' he => ?_
          obtain ⟨rfl, n, rfl⟩ := he
          have hle := compact_length_le (l.map fun x : Int × Unit => x.1)
          rw [List.length_map] at hle
          have hol : (once l).length = (compact (l.map fun x : Int × Unit => x.1)).length := by simp [once]
          have hlen : (compact (l.map fun x : Int × Unit => x.1) ++ List.replicate (l.length - (compact (l.map fun x : Int × Unit => x.1)).length) 0).length = l.length := by
            rw [List.length_append, List.length_replicate]; omega
          rw [putRow_eq_setCells (Value.int .i64) w (r 0).b (r 0).o (l.map fun x : Int × Unit => x.1).toArray _ n hH (by simpa using hlen)]
          generalize hus : (compact (l.map fun x : Int × Unit => x.1) ++ List.replicate (l.length - (compact (l.map fun x : Int × Unit => x.1)).length) 0).map (Value.int .i64) = us
          have hul : us.length = l.length := by rw [← hus, List.length_map, hlen]
          have hth : (w.drewN n).there (r 0).b (r 0).o us.length := fun i hi => h4 i (by simp only [Tys.len]; omega)
          have hm := (hmem.drewN n).fresh' (k := 1) (by simp) (js := [0]) (fun j hj => by rw [List.mem_singleton] at hj; subst hj; exact Nat.zero_lt_one)
            (d := ⟨(r 0).b, (r 0).o, .slice (some ⟨(r 0).b, (r 0).o, none⟩) (once l).length cap⟩) (ob := .row i64T (once l)) (w' := (w.drewN n).setCells (r 0).b (r 0).o us)
            (.inr ⟨cap, rfl, by omega, h3, World.there_setCells (w := w.drewN n) h4 _ _ _, cells_row (fun i v hv => by
              have hi : i < (compact (l.map (·.1))).length := by
                have := (List.getElem?_eq_some_iff.1 hv).1
                simpa using this
              refine World.rangeAt_setCells_same _ _ _ us hth i v ?_
              rw [← hus, List.map_append, List.getElem?_append_left (by simpa using hi)]
              exact hv)⟩) trivial
            (fun b o hfo => .inl ⟨0, _, List.mem_singleton.2 rfl, hj, by
              obtain ⟨n', cap', e1, e2, e3, e4⟩ := hfo
              injection e1 with e11 e12 e13
              subst e13
              exact ⟨_, cap, h1, e2, e3, e4⟩⟩)
            ((Fr.setCells _ _ _ us hth).mono fun b o _ hh => by
              obtain ⟨rfl, p1, p2⟩ := hh
              exact ⟨0, _, List.mem_singleton.2 rfl, hj, _, cap, h1, rfl, p1, by simp only [Tys.len]; omega⟩)
          refine ⟨_, F, locPut r 1 ⟨(r 0).b, (r 0).o, .slice (some ⟨(r 0).b, (r 0).o, none⟩) (once l).length cap⟩, (EndIs.mk rfl), ?_, ⟨by rw [locPut_self, hol], rfl⟩, Nat.lt_succ_self 1, fun j hj => locPut_other r (by simp at hj; omega) _, by simp⟩
          have e : updH ((1, Ob.row i64T (once l)) :: deads [0]) (nthH [Ob.row i64T l]) = nthH [.dead, Ob.row i64T (once l)] := by
            funext j
            match j with
            | 0 => rfl
            | 1 => rfl
            | j + 2 => rfl
          rw [e] at hm
          exact hm.monoD fun j hj => by rcases hj with hj | hj <;> simp <;> omega
    · cases hg⟩
end
/-! ### What is once in a sorted row -/
theorem lt_ext : ∀ {a b : List Int}, a.Pairwise (· < ·) → b.Pairwise (· < ·) → (∀ x, x ∈ a ↔ x ∈ b) → a = b
  | [], [], _, _, _ => rfl
  | [], y :: b, _, _, h => by have := (h y).2 (by simp); cases this
  | x :: a, [], _, _, h => by have := (h x).1 (by simp); cases this
  | x :: a, y :: b, ha, hb, h => by
    rw [List.pairwise_cons] at ha hb
    have e : x = y := by
      have h1 := (h x).1 (by simp)
      have h2 := (h y).2 (by simp)
      rw [List.mem_cons] at h1 h2
      rcases h1 with h1 | h1
      · exact h1
      · rcases h2 with h2 | h2
        · exact h2.symm
        · have := hb.1 x h1
          have := ha.1 y h2
          omega
    subst e
    congr 1
    refine lt_ext ha.2 hb.2 fun z => ⟨fun hz => ?_, fun hz => ?_⟩
    · have g := ha.1 z hz
      have := (h z).1 (List.mem_cons_of_mem _ hz)
      rw [List.mem_cons] at this
      rcases this with rfl | this
      · omega
      · exact this
    · have g := hb.1 z hz
      have := (h z).2 (List.mem_cons_of_mem _ hz)
      rw [List.mem_cons] at this
      rcases this with rfl | this
      · omega
      · exact this
theorem compactUpTo_rises (d : Array Int) (hs : ∀ i j, i ≤ j → j < d.size → d[i]! ≤ d[j]!) : ∀ m, m ≤ d.size → (compactUpTo d m).Pairwise (· < ·) ∧ ∀ x, x ∈ compactUpTo d m ↔ ∃ j, j < m ∧ d[j]! = x
  | 0, _ => ⟨by simp [compactUpTo], fun x => by simp [compactUpTo]⟩
  | m + 1, hm => by
    obtain ⟨h1, h2⟩ := compactUpTo_rises d hs m (by omega)
    rw [compactUpTo_succ]
    by_cases hk : keeps d m = true
    · rw [if_pos hk]
      have hk' : m = 0 ∨ d[m]! ≠ d[m - 1]! := by simpa [keeps] using hk
      refine ⟨List.pairwise_append.2 ⟨h1, by simp, fun x hx y hy => ?_⟩, fun x => ?_⟩
      · rw [List.mem_singleton] at hy
        subst hy
        obtain ⟨j, hj, rfl⟩ := (h2 x).1 hx
        rcases hk' with rfl | hk'
        · omega
        · have := hs j (m - 1) (by omega) (by omega)
          have := hs (m - 1) m (by omega) (by omega)
          omega
      · rw [List.mem_append, List.mem_singleton, h2]
        constructor
        · rintro (⟨j, hj, e⟩ | e)
          · exact ⟨j, by omega, e⟩
          · exact ⟨m, by omega, e.symm⟩
        · rintro ⟨j, hj, e⟩
          by_cases g : j = m
          · subst g; exact .inr e.symm
          · exact .inl ⟨j, by omega, e⟩
    · rw [if_neg hk, List.append_nil]
      have hk' : ¬(m = 0 ∨ d[m]! ≠ d[m - 1]!) := by simpa [keeps] using hk
      refine ⟨h1, fun x => ?_⟩
      rw [h2]
      constructor
      · rintro ⟨j, hj, e⟩
        exact ⟨j, by omega, e⟩
      · rintro ⟨j, hj, e⟩
        by_cases g : j = m
        · subst g
          refine ⟨j - 1, by omega, ?_⟩
          rw [← e]
          by_cases g2 : d[j]! = d[j - 1]!
          · exact g2.symm
          · exact absurd (.inr g2) hk'
        · exact ⟨j, by omega, e⟩
theorem once_sorted {l : I64s} {L : List Int} (hL : L.Pairwise (· < ·)) (h : ∀ x, x ∈ L ↔ x ∈ l.map (·.1)) : once (sorted l) = L.map fun x => (x, ()) := by
  unfold once
  congr 1
  have e : (sorted l).map (·.1) = (l.map (·.1)).mergeSort fun x y => decide (x ≤ y) := by
    unfold sorted
    rw [List.map_map]
    exact List.map_id _
  rw [e]
  have hp : ((l.map (·.1)).mergeSort fun x y => decide (x ≤ y)).Pairwise fun a b => decide (a ≤ b) = true :=
    List.pairwise_mergeSort (fun a b c h1 h2 => by simp at *; omega) (fun a b => by simp; omega) _
  generalize hz : ((l.map (·.1)).mergeSort fun x y => decide (x ≤ y)) = zs at *
  have hmem : ∀ x, x ∈ zs ↔ x ∈ l.map (·.1) := fun x => by rw [← hz]; exact List.mem_mergeSort
  unfold compact
  have hs : ∀ i j, i ≤ j → j < zs.toArray.size → zs.toArray[i]! ≤ zs.toArray[j]! := fun i j hij hj => by
    have hj' : j < zs.length := by simpa using hj
    rw [getElem!_pos zs.toArray i (by simp; omega), getElem!_pos zs.toArray j hj]
    by_cases g : i = j
    · subst g; exact Int.le_refl _
    · have := List.pairwise_iff_getElem.1 hp i j (by omega) hj' (by omega)
      simpa using this
  obtain ⟨h1, h2⟩ := compactUpTo_rises zs.toArray hs zs.length (by simp)
  refine lt_ext h1 hL fun x => ?_
  rw [h2, h, ← hmem, List.mem_iff_getElem]
  constructor
  · rintro ⟨j, hj, e⟩
    refine ⟨j, hj, ?_⟩
    rw [getElem!_pos zs.toArray j (by simpa using hj)] at e
    simpa using e
  · rintro ⟨j, hj, e⟩
    refine ⟨j, hj, ?_⟩
    rw [getElem!_pos zs.toArray j (by simpa using hj)]
    simpa using e
end Go.Sz
