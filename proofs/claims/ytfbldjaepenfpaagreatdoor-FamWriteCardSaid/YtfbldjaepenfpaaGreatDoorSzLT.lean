/-
  A symbolic machine for one call: slices of a known length whose elements may be one's own rows, pointers, functions ('literal' slices): a mode of its own.
-/
import Derived.Test.YtfbldjaepenfpaaGreatDoorSzMC
noncomputable section
namespace Go.Sz
open Go Go.RowKit Go.Sy
set_option linter.unusedVariables false
set_option linter.unusedSimpArgs false
set_option linter.constructorNameAsVariable false
def hasSl : Tys → Bool
  | .nil => false
  | .cons (.sl _) _ => true
  | .cons _ ts => hasSl ts
def litElem (P : Program) (e : TypeId) : Bool := match flatT P 12 e with
  | some ts => hasSl ts
  | none => true
def litIdx (P : Program) (t : TypeId) (c : Cell) (i : Int) : Option (Tree Eff) := match P.underlying t, c with
  | some (.array len elem), .p j off => match pureSem P (sizeOf elem) with
    | some sz => some (.ck (inB i len) (.ret ⟨some (AV.c (.p j (off + i.toNat * sz))), [], 0⟩))
    | none => none
  | some (.slice elem), .s j off sz' n _ => match pureSem P (sizeOf elem) with
    | some sz => some (.ck (Nat.beq sz' sz && inB i n) (.ret ⟨some (AV.c (.p j (off + i.toNat * sz))), [], 0⟩))
    | none => none
  | _, _ => none
def litMake (P : Program) (nx : Nat) (t : TypeId) (n c : Int) : Option (Tree Eff) := match P.underlying t with
  | some (.slice e) => match P.info? e with
    | some i => match i.zero with
      | some z => bif litElem P e then some (bif Nat.blt 0 i.size && okAll (kCells (madeCells z.cells (c.toNat * i.size)).toList) then
            .ck (decide (0 ≤ n) && (decide (n ≤ c) && (decide (c ≤ 140737488355328) && bytesOk c.toNat i.bytes))) (.ret ⟨some (AV.c (.s nx 0 i.size n.toNat c.toNat)), [(nx, .lit (kCells (madeCells z.cells (c.toNat * i.size)).toList))], 1⟩)
          else .fail) else none
      | none => none
    | none => none
  | _ => none
def litBuild (P : Program) (nx : Nat) (t : TypeId) (len : Nat) (ps : List (Nat × Part)) : Option (Tree Eff) := match P.underlying t with
  | some (.slice e) => match P.info? e with
    | some i => match i.zero with
      | some z => bif litElem P e then some (bif Nat.blt 0 i.size && (Nat.blt 0 len && Nat.ble (len * i.size) 16777216) then
          match fillA (fun k => some (k * i.size, i.size)) (kCells (madeCells z.cells (len * i.size)).toList) ps with
          | some cs => bif okAll cs then .ret ⟨some (AV.c (.s nx 0 i.size len len)), [(nx, .lit cs)], 1⟩ else .fail
          | none => .fail
        else .fail) else none
      | none => none
    | none => none
  | _ => none
def litT (P : Program) (E : Ef) (nx : Nat) (o : Oper) : Option (Tree Eff) := match o.op with
  | .indexAddr t x i => match evalO E x, evalO E i with
    | some (.p (.one c)), some (.p (.one d)) => match intOf d with
      | some n => litIdx P t c n
      | none => none
    | _, _ => none
  | .makeSlice t l c => match evalO E l, evalO E c with
    | some (.p (.one a)), some (.p (.one b)) => match intOf a, intOf b with
      | some n, some m => litMake P nx t n m
      | _, _ => none
    | _, _ => none
  | .buildSlice t len parts => match evalParts E parts.toList with
    | some ps => litBuild P nx t len ps
    | none => none
  | _ => none
section
variable {P : Program} {w0 : World} {S : Nat → Nat → Prop} {R0 : Frag} {D : Nat → Prop} {H Hr : Hf} {F : Frag} {r : Loc} {w : World} {E : Ef}
theorem litIdx_run (hm : Mem w0 S R0 D H F r w) {nx : Nat} {eff : Eff} {t : TypeId} {c : Cell} {i : Int} {tr : Tree Eff} (ht : litIdx P t c i = some tr) (h : tr.run = some eff) {u : Value} (hu : c.rep F r u) (hc : c.inn D) (k : IntKind) :
    ∃ v, (Instr.indexAt t u (.int k i)).run P w = .ok v w ∧ After w0 S R0 D H F r nx eff F r w v := by
  unfold litIdx at ht
  split at ht
  · rename_i len elem j off hut
    split at ht
    · rename_i sz hsz
      injection ht with ht; subst ht
      obtain ⟨hb, h⟩ := Tree.run_ck h
      simp only [Tree.run, Option.some.injEq] at h; subst h
      have hi := inB_spec hb
      rw [show u = _ from hu]
      refine ⟨.pointer (some ⟨(r j).b, (r j).o + off + i.toNat * sz, none⟩), ?_, after_same rfl hm fun av' hav => by injection hav with hav; subst hav; exact ⟨by simp only [AV.rep, Part.rep, Cell.rep, Nat.add_assoc], hc⟩⟩
      simp only [Instr.indexAt, Instr.sureAddr, asIntOf, Sem.run_bind, Sem.run_pure, Result.andThen_ok, run_underlying hut, if_pos (show 0 ≤ i ∧ i < (len : Int) from ⟨hi.1, hi.2.1⟩), pureSem_run hsz, Addr.add_mid]
    · cases ht
  · rename_i elem j off sz' n cap hut
    split at ht
    · rename_i sz hsz
      injection ht with ht; subst ht
      obtain ⟨hb, h⟩ := Tree.run_ck h
      simp only [Tree.run, Option.some.injEq] at h; subst h
      simp only [Bool.and_eq_true] at hb
      have hi := inB_spec hb.2
      rw [show u = _ from hu]
      exact ⟨_, indexAt_slice hut hsz hi k _ _ cap, after_same rfl hm fun av' hav => by injection hav with hav; subst hav; exact ⟨by simp only [AV.rep, Part.rep, Cell.rep, Nat.add_assoc], hc⟩⟩
    · cases ht
  · cases ht
theorem litMake_run (hm : Mem w0 S R0 D H F r w) {nx : Nat} {eff : Eff} (hnx : ∀ j, nx ≤ j → j < nx + eff.nn → ¬ D j) {t : TypeId} {n c : Int} {tr : Tree Eff} (ht : litMake P nx t n c = some tr) (h : tr.run = some eff) (kn kc : IntKind) :
    ∃ v w' r', (Instr.makeSlice t (.int kn n) (.int kc c)).run P w = .ok v w' ∧ After w0 S R0 D H F r nx eff F r' w' v := by
  unfold litMake at ht
  split at ht
  · rename_i e hut
    split at ht
    · rename_i i hi
      split at ht
      · rename_i z hz
        cases hl : litElem P e with
        | false => rw [hl] at ht; cases ht
        | true =>
          rw [hl] at ht
          simp only [cond_true, Option.some.injEq] at ht; subst ht
          cases hb : (Nat.blt 0 i.size && okAll (kCells (madeCells z.cells (c.toNat * i.size)).toList)) with
          | false => rw [hb] at h; cases h
          | true =>
            rw [hb] at h
            simp only [cond_true] at h
            simp only [Bool.and_eq_true] at hb
            obtain ⟨hck, h⟩ := Tree.run_ck h
            simp only [Tree.run, Option.some.injEq] at h; subst h
            simp only [Bool.and_eq_true, decide_eq_true_eq] at hck
            obtain ⟨h0, hnc, hc1, hc2⟩ := hck
            have hbytes : c.toNat * i.bytes ≤ 140737488355328 := Nat.le_of_ble_eq_true hc2
            have hb' : (i.bytes : Int) * c ≤ 281474976710656 := by
              obtain ⟨cn, rfl⟩ := Int.eq_ofNat_of_zero_le (Int.le_trans h0 hnc)
              simp only [Int.toNat_natCast] at hbytes
              have : ((cn * i.bytes : Nat) : Int) ≤ 140737488355328 := by omega
              rw [Int.natCast_mul] at this
              rw [Int.mul_comm]; omega
            have hrun := run_make (P := P) w t e i z hut hi hz kn kc n c h0 hnc hb' (by omega)
            have hk := kCells_rep F r (madeCells z.cells (c.toNat * i.size)).toList
            have hnx0 := hnx nx (Nat.le_refl _) (Nat.lt_succ_self _)
            refine ⟨_, _, locPut r nx ⟨w.heap.size, 0, undef⟩, hrun, locPut_agree r hnx0 _, Frag.le_refl F, ?_, fun av hav => ?_⟩
            · have := (hm.newLit hnx0 (kCells_inn D _) hk (okAll_one hb.2 hk) e).monoD (fun j => More_one)
              simpa using this
            · injection hav with hav; subst hav
              exact ⟨by simp [AV.rep, Part.rep, Cell.rep, locPut_self], More_one (.inr rfl)⟩
      · cases ht
    · cases ht
  · cases ht
theorem litBuild_run (hm : Mem w0 S R0 D H F r w) {nx : Nat} {eff : Eff} (hnx : ∀ j, nx ≤ j → j < nx + eff.nn → ¬ D j) {t : TypeId} {len : Nat} {ps : List (Nat × Part)} {tr : Tree Eff} (ht : litBuild P nx t len ps = some tr) (h : tr.run = some eff)
    {us : List (Nat × Value)} (hu : ipRep F r ps us) (hp : ∀ p ∈ ps, p.2.inn D) : ∃ v w' r', (Instr.buildSlice t len us.toArray).run P w = .ok v w' ∧ After w0 S R0 D H F r nx eff F r' w' v := by
  unfold litBuild at ht
  split at ht
  · rename_i e hut
    split at ht
    · rename_i i hi
      split at ht
      · rename_i z hz
        cases hl : litElem P e with
        | false => rw [hl] at ht; cases ht
        | true =>
          rw [hl] at ht
          simp only [cond_true, Option.some.injEq] at ht; subst ht
          cases hb : (Nat.blt 0 i.size && (Nat.blt 0 len && Nat.ble (len * i.size) 16777216)) with
          | false => rw [hb] at h; cases h
          | true =>
            rw [hb] at h
            simp only [cond_true] at h
            simp only [Bool.and_eq_true] at hb
            obtain ⟨hpos, hlen, hle⟩ := hb
            have hpos : 0 < i.size := Nat.le_of_ble_eq_true hpos
            have hlen : 0 < len := Nat.le_of_ble_eq_true hlen
            have hle : len * i.size ≤ 16777216 := Nat.le_of_ble_eq_true hle
            split at h
            · rename_i cs hcs
              cases hok : okAll cs with
              | false => rw [hok] at h; cases h
              | true =>
                rw [hok] at h
                simp only [cond_true, Tree.run, Option.some.injEq] at h; subst h
                obtain ⟨vs, hfill, hvs⟩ := fillA_fill hcs (kCells_rep F r (madeCells z.cells (len * i.size)).toList) hu
                have hci := fillA_inn hcs (kCells_inn D _) hp
                have hnx0 := hnx nx (Nat.le_refl _) (Nat.lt_succ_self _)
                refine ⟨.slice (some ⟨w.heap.size, 0, none⟩) len len, w.alloc (.cells vs.toArray e), locPut r nx ⟨w.heap.size, 0, undef⟩, ?_, locPut_agree r hnx0 _, Frag.le_refl F, (hm.newLit hnx0 hci hvs (okAll_one hok hvs) e).monoD (fun j => More_one), fun av hav => ?_⟩
                · have hgt : ¬ (16777216 < len * i.size) := by omega
                  have hne : ¬ len * i.size = 0 := by
                    intro h0
                    rcases Nat.mul_eq_zero.1 h0 with h0 | h0 <;> omega
                  have hfill' : Instr.fill (fun k => some (k * i.size, i.size)) ((Array.range (len * i.size)).map (z.cells[· % z.cells.size]!)) us = some vs.toArray := by
                    have : (madeCells z.cells (len * i.size)).toList.toArray = (Array.range (len * i.size)).map (z.cells[· % z.cells.size]!) := by rw [Array.toArray_toList]; rfl
                    rw [this] at hfill; exact hfill
                  simp [Instr.buildSlice, run_underlying hut, sizeOf, typeInfo, hi, zeroValue, hz, hne, hgt, hfill', newRow]
                · injection hav with hav; subst hav
                  exact ⟨by simp [AV.rep, Part.rep, Cell.rep, locPut_self], More_one (.inr rfl)⟩
            · cases h
      · cases ht
    · cases ht
  · cases ht
theorem lit_out (hm : Mem w0 S R0 D H F r w) {nx : Nat} {eff : Eff} (hnx : ∀ j, nx ≤ j → j < nx + eff.nn → ¬ D j) {o : Oper} {tr : Tree Eff} (ht : litT P E nx o = some tr) (h : tr.run = some eff) {a : Act} (he : EnvR F r E a) (hi : EnvIn D E) : Out P w0 S R0 D H F r nx eff o a w := by
  unfold litT at ht
  split at ht
  · rename_i t x i ho
    split at ht
    · rename_i c d hx hd
      split at ht
      · rename_i n hn
        obtain ⟨k, hk⟩ := intOf_rep hn (evalO_rep he hd)
        obtain ⟨v, g1, g2⟩ := litIdx_run (nx := nx) hm ht h (evalO_rep he hx) (evalO_inn hi hx) k
        refine ⟨_, v, w, F, r, ?_, .inl rfl, g2⟩
        simp only [execOp, ho, hk, Sem.run_bind, g1, Result.andThen_ok, Sem.run_pure]
      · cases ht
    · cases ht
  · rename_i t l c ho
    split at ht
    · rename_i x y hx hy
      split at ht
      · rename_i n m hn hm'
        obtain ⟨kn, hkn⟩ := intOf_rep hn (evalO_rep he hx)
        obtain ⟨km, hkm⟩ := intOf_rep hm' (evalO_rep he hy)
        obtain ⟨v, w', r', g1, g2⟩ := litMake_run hm hnx ht h kn km
        refine ⟨_, v, w', F, r', ?_, .inl rfl, g2⟩
        simp only [execOp, ho, hkn, hkm, Sem.run_bind, g1, Result.andThen_ok, Sem.run_pure]
      · cases ht
    · cases ht
  · rename_i t len parts ho
    split at ht
    · rename_i ps hps
      obtain ⟨v, w', r', g1, g2⟩ := litBuild_run hm hnx ht h (evalParts_rep he hps) (evalParts_inn hi hps)
      have h1 : (parts.map fun (p : Nat × Operand) => (p.1, a.eval p.2)) = (parts.toList.map fun (p : Nat × Operand) => (p.1, a.eval p.2)).toArray := by
        apply Array.ext'; simp
      rw [← h1] at g1
      refine ⟨_, v, w', F, r', ?_, .inl rfl, g2⟩
      simp only [execOp, ho, Sem.run_bind]
      exact (congrArg (fun y => Result.andThen y _) g1).trans rfl
    · cases ht
  · cases ht
end
end Go.Sz
