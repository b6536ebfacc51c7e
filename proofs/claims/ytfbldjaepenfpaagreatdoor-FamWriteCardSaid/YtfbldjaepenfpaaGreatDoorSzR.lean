/-
  A symbolic machine for one call, with rows of any length: what makes memory; bytes and strings.
  A symbolic machine for one call, with rows of any length: all operations but calls of functions.
-/
import Derived.Test.YtfbldjaepenfpaaGreatDoorSzP
noncomputable section
namespace Go.Sz
open Go Go.RowKit Go.Sy
set_option linter.unusedVariables false
set_option linter.unusedSimpArgs false
set_option linter.constructorNameAsVariable false
/-! ### Bytes and strings -/
@[reducible] def bytesTs : Tys := .cons (.w .u8) .nil
def strOf (l : List (Tys.den bytesTs)) : ByteArray := ⟨(l.map fun x => UInt8.ofBitVec x.1).toArray⟩
section
variable {P : Program} {w0 : World} {S : Nat → Nat → Prop} {R0 : Frag} {D : Nat → Prop} {H Hr : Hf} {F : Frag} {r : Loc} {w : World}
theorem byteVals {F : Frag} : ∀ {l : List (Tys.den bytesTs)} {vs : List Value}, RowVals F bytesTs l vs → vs = l.map fun x => .int .u8 (x.1.toNat : Int) := by
  intro l vs h
  apply List.ext_getElem?
  intro i
  have hl := h.len
  simp only [Tys.len, Nat.mul_one] at hl
  by_cases hi : i < l.length
  · have hx := List.getElem?_eq_getElem hi
    have := h.rep i _ hx
    simp only [RepC, RepT, lF, Tys.len, Nat.mul_one, and_true] at this
    obtain ⟨v, h1, h2⟩ := this
    rw [Nat.zero_add, Nat.mul_one] at h1
    rw [h1, List.getElem?_map, hx, h2]; rfl
  · rw [List.getElem?_eq_none (by omega), List.getElem?_eq_none (by simp; omega)]
theorem bytesToString_run {src dst e : TypeId} (hs : P.underlying src = some (.slice e)) (he : P.underlying e = some (.int .u8)) (hd : P.underlying dst = some .string) {u : Value} {l : List (Tys.den bytesTs)} {vs : List Value}
    (hv : RowVals F bytesTs l vs) (hr : Reads P w 1 l.length u vs) (hu : ∃ a n c, u = .slice a n c) : (convert src dst u).run P w = .ok (.string (strOf l)) w := by
  obtain ⟨a, n, c, rfl⟩ := hu
  have hlen : n = l.length := by
    have := hr.1
    simp only [Builtin.lenOf] at this
    cases this; rfl
  subst hlen
  have hvs := byteVals hv
  have hf := hr.full w rfl
  have hstr : ∀ (l : List (Tys.den bytesTs)) (s : ByteArray), (l.map fun x => (x.1.toNat : Int)).foldl (fun r n => r.push (UInt8.ofNat n.toNat)) s = ⟨s.data ++ (l.map fun x => UInt8.ofBitVec x.1).toArray⟩ := by
    intro l
    induction l with
    | nil => intro s; simp
    | cons x l ih =>
      intro s
      simp only [List.map_cons, List.foldl_cons]
      rw [ih]
      simp only [Int.toNat_natCast]
      have : UInt8.ofNat x.1.toNat = UInt8.ofBitVec x.1 := by
        apply UInt8.eq_of_toBitVec_eq
        apply BitVec.eq_of_toNat_eq
        have := x.1.isLt
        simp only [IntKind.bits] at this
        simp
        exact Nat.mod_eq_of_lt this
      rw [this]
      simp [ByteArray.push]
  cases a with
  | none =>
    have : l = [] := by
      have h2 := hr.2.2 l.length (Nat.le_refl _) w rfl
      rw [run_firstCells_none] at h2
      simp only [Result.ok.injEq, and_true] at h2
      have h3 : vs.take (l.length * 1) = [] := by
        have := congrArg Array.toList h2
        simpa using this.symm
      have h4 := congrArg List.length h3
      rw [List.length_take, hr.2.1] at h4
      exact List.length_eq_zero_iff.1 (by simpa using h4)
    subst this
    simp only [convert, Sem.run_bind, run_underlying hs, run_underlying hd, run_underlying he, Result.andThen_ok, Conv.bytesToString, Sem.run_pure]
    rfl
  | some a =>
    have hload : (loadCells a l.length).run P w = .ok ((l.map fun x => (x.1.toNat : Int)).map (Value.int .u8)).toArray w := by
      simp only [Builtin.firstCells, Nat.mul_one] at hf
      rw [hf, hvs, List.map_map]; rfl
    have := run_bytesToString (P := P) w a l.length c _ hload
    simp only [convert, Sem.run_bind, run_underlying hs, run_underlying hd, run_underlying he, Result.andThen_ok, this]
    rw [hstr]
    have e0 : ByteArray.empty.data = #[] := rfl
    rw [e0]
    simp [strOf]
def isBytes (P : Program) (e : TypeId) : Bool := match P.underlying e with
  | some (.int .u8) => true
  | _ => false
theorem isBytes_spec {e : TypeId} (h : isBytes P e = true) : P.underlying e = some (.int .u8) := by
  unfold isBytes at h
  split at h
  · assumption
  · cases h
def isSl : Cell → Bool
  | .d _ _ => true
  | .h _ => true
  | .hs .. => true
  | .s .. => true
  | .v (.slice none 0 0) => true
  | _ => false
def convT (P : Program) (H : Hf) (E : Ef) (nx : Nat) (o : Oper) (src dst : TypeId) (x : Operand) : Tree Eff :=
  match P.underlying src, P.underlying dst, evalO E x with
  | some (.slice e), some .string, some (.p (.one c)) => bif isBytes P e && isSl c then (contT H bytesTs c).bind fun l => .ret ⟨some (AV.c (.v (.string (strOf l)))), [], 0⟩ else .fail
  | some .string, some (.slice e), some (.p (.one (.v (.string s)))) => bif isBytes P e && Nat.ble s.size 140737488355328 then .ret ⟨some (AV.c (.h nx)), [(nx, .row bytesTs (strRows s))], 1⟩
    else .fail
  | _, _, _ => (silT P H E o).bind fun av => .ret ⟨some av, [], 0⟩
/-! ### New rows -/
def makeT (P : Program) (nx : Nat) (t : TypeId) (n c : Int) : Tree Eff :=
  match P.underlying t with
  | some (.slice e) => match P.info? e, flatT P 12 e with
    | some i, some ts => match i.zero with
      | some z => match ofCells ts (kCells z.cells.toList) with
        | some d => bif Nat.beq i.size ts.len && Nat.beq z.cells.size i.size && Nat.blt 0 i.size && okAll (kCells z.cells.toList) then
            .ck (decide (0 ≤ n) && (decide (n ≤ c) && (decide (c ≤ 140737488355328) && bytesOk c.toNat i.bytes))) (.ret ⟨some (AV.c (.h nx)), [(nx, .row ts (List.replicate n.toNat d))], 1⟩)
          else .fail
        | none => .fail
      | none => .fail
    | _, _ => .fail
  | _ => .fail
def buildSliceT (P : Program) (H : Hf) (nx : Nat) (t : TypeId) (len : Nat) (ps : List (Nat × Part)) : Tree Eff :=
  match P.underlying t with
  | some (.slice e) => match P.info? e, flatT P 12 e with
    | some i, some ts => match i.zero with
      | some z => bif Nat.beq i.size ts.len && Nat.blt 0 i.size && Nat.ble (len * i.size) 16777216 && okAll (kCells (madeCells z.cells (len * i.size)).toList) then
          match fillA (fun k => some (k * i.size, i.size)) (kCells (madeCells z.cells (len * i.size)).toList) ps with
          | some cs => match deepL H cs with
            | some (ds, ups) => match litRows ts len ds with
              | some l => .ret ⟨some (AV.c (.h nx)), (nx, .row ts l) :: ups, 1⟩
              | none => .fail
            | none => .fail
          | none => .fail
        else .fail
      | none => .fail
    | _, _ => .fail
  | _ => .fail
theorem replicate_vals {ts : Tys} {d : ts.den} {us : List Value} (h : RowVals F ts [d] us) : ∀ (n : Nat), RowVals F ts (List.replicate n d) (List.replicate n us).flatten
  | 0 => RowVals.nil F ts
  | n + 1 => by
    have := h.append (replicate_vals h n)
    rw [List.replicate_succ, List.replicate_succ, List.flatten_cons]
    exact this
theorem flatten_get {us : List Value} (hpos : 0 < us.length) : ∀ (n i : Nat), i < n * us.length → (List.replicate n us).flatten[i]? = us[i % us.length]?
  | 0, i, h => by omega
  | n + 1, i, h => by
    rw [List.replicate_succ, List.flatten_cons]
    by_cases hi : i < us.length
    · rw [List.getElem?_append_left hi, Nat.mod_eq_of_lt hi]
    · rw [List.getElem?_append_right (by omega), flatten_get hpos n _ (by rw [Nat.add_mul, Nat.one_mul] at h; omega)]
      congr 1
      exact (Nat.mod_eq_sub_mod (by omega)).symm
theorem madeCells_list {z : Array Value} (hz : 0 < z.size) (n : Nat) : (madeCells z (n * z.size)).toList = (List.replicate n z.toList).flatten := by
  apply List.ext_getElem?
  intro i
  by_cases hi : i < n * z.size
  · rw [flatten_get (by simpa using hz) n i (by simpa using hi)]
    have hm : i % z.size < z.size := Nat.mod_lt _ hz
    simp [madeCells, hi, hm]
  · rw [List.getElem?_eq_none (by simp [madeCells]; omega), List.getElem?_eq_none (by simp; omega)]
theorem makeT_run (hm : Mem w0 S R0 D H F r w) {nx : Nat} {eff : Eff} (hnx : ∀ j, nx ≤ j → j < nx + eff.nn → ¬ D j) {t : TypeId} {n c : Int} (h : (makeT P nx t n c).run = some eff) (kn kc : IntKind) :
    ∃ v w' r', (Instr.makeSlice t (.int kn n) (.int kc c)).run P w = .ok v w' ∧ After w0 S R0 D H F r nx eff F r' w' v := by
  unfold makeT at h
  split at h
  · rename_i e ht
    split at h
    · rename_i i ts hi hts
      split at h
      · rename_i z hz
        split at h
        · rename_i d hd
          cases hb : (Nat.beq i.size ts.len && Nat.beq z.cells.size i.size && Nat.blt 0 i.size && okAll (kCells z.cells.toList)) with
          | false => rw [hb] at h; cases h
          | true =>
            rw [hb] at h
            simp only [cond_true] at h
            simp only [Bool.and_eq_true] at hb
            obtain ⟨⟨⟨hsz, hzs⟩, hpos⟩, hok⟩ := hb
            have hsz := Nat.eq_of_beq_eq_true hsz
            have hzs := Nat.eq_of_beq_eq_true hzs
            have hpos : 0 < i.size := Nat.le_of_ble_eq_true hpos
            obtain ⟨hck, h⟩ := Tree.run_ck h
            simp only [Tree.run, Option.some.injEq] at h; subst h
            simp only [Bool.and_eq_true, decide_eq_true_eq] at hck
            obtain ⟨h0, hnc, hc1, hc2⟩ := hck
            have hbytes : c.toNat * i.bytes ≤ 140737488355328 := Nat.le_of_ble_eq_true hc2
            have hb' : (i.bytes : Int) * c ≤ 281474976710656 := by
              obtain ⟨cn, rfl⟩ := Int.eq_ofNat_of_zero_le (Int.le_trans h0 hnc)
              simp only [Int.toNat_natCast] at hbytes
              have : ((cn * i.bytes : Nat) : Int) ≤ 140737488355328 := by omega
              rw [Int.natCast_mul] at this
              rw [Int.mul_comm]; omega
            have hrun := run_make (P := P) w t e i z ht hi hz kn kc n c h0 hnc hb' (by omega)
            have hone := rowVals_one (F := F) hd (kCells_rep F r z.cells.toList) (okAll_one hok (kCells_rep F r z.cells.toList))
            have hvals := replicate_vals hone n.toNat
            have hsplit : (madeCells z.cells (c.toNat * i.size)).toList = (List.replicate n.toNat z.cells.toList).flatten ++ (List.replicate (c.toNat - n.toNat) z.cells.toList).flatten := by
              rw [← hzs, madeCells_list (by omega), ← List.flatten_append, List.replicate_append_replicate]
              congr 2; omega
            have hlen : (List.replicate n.toNat d).length = n.toNat := by simp
            refine ⟨_, _, locPut r nx ⟨w.heap.size, 0, .slice (some ⟨w.heap.size, 0, none⟩) (List.replicate n.toNat d).length c.toNat⟩, hrun, locPut_agree r (hnx nx (Nat.le_refl _) (Nat.lt_succ_self _)) _, Frag.le_refl F, ?_, fun av hav => ?_⟩
            · have := hm.newRow (hnx nx (Nat.le_refl _) (Nat.lt_succ_self _)) (js := []) (fun j hj => by cases hj) hvals hsplit (cap := c.toNat) (by rw [size_madeCells, hsz]) (by rw [hlen]; omega) (Nat.le_trans (by omega : c.toNat ≤ 140737488355328) (by decide)) (w1 := w) rfl (Below.refl _ _) e (0, 0) (.inr rfl)
              exact this.monoD (fun j => More_one)
            · injection hav with hav; subst hav
              exact ⟨⟨by rw [locPut_self, hlen], rfl⟩, More_one (.inr rfl)⟩
        · cases h
      · cases h
    · cases h
  · cases h
theorem buildSliceT_run2 (hs : ∀ j ob, Hr j = some ob → H j = some ob) (hm : Mem w0 S R0 D H F r w) {nx : Nat} {eff : Eff} (hnx : ∀ j, nx ≤ j → j < nx + eff.nn → ¬ D j) {t : TypeId} {len : Nat} {ps : List (Nat × Part)} (h : (buildSliceT P Hr nx t len ps).run = some eff)
    {us : List (Nat × Value)} (hu : ipRep F r ps us) (hp : ∀ p ∈ ps, p.2.inn D) : ∃ (v : Value) (arr : Array Value) (e : TypeId) (n : Nat) (r' : Loc) (F' : Frag), P.underlying t = some (.slice e) ∧ v = .slice (some ⟨w.heap.size, 0, none⟩) n n ∧ (Instr.buildSlice t len us.toArray).run P w = .ok v (w.alloc (.cells arr e)) ∧
      eff.res = some (AV.c (.h nx)) ∧ eff.nn = 1 ∧ ∀ fz : Nat × Nat, (arr.size ≤ fz.1 ∨ fz.1 = fz.2) → After w0 S R0 D H F r nx eff F' r' (w.alloc (.cells arr e fz)) v := by
  unfold buildSliceT at h
  split at h
  · rename_i e ht
    split at h
    · rename_i i ts hi hts
      split at h
      · rename_i z hz
        cases hb : (Nat.beq i.size ts.len && Nat.blt 0 i.size && Nat.ble (len * i.size) 16777216 && okAll (kCells (madeCells z.cells (len * i.size)).toList)) with
        | false => rw [hb] at h; cases h
        | true =>
          rw [hb] at h
          simp only [cond_true] at h
          simp only [Bool.and_eq_true] at hb
          obtain ⟨⟨⟨hsz, hpos⟩, hle⟩, hok⟩ := hb
          have hsz := Nat.eq_of_beq_eq_true hsz
          have hpos : 0 < i.size := Nat.le_of_ble_eq_true hpos
          have hle : len * i.size ≤ 16777216 := Nat.le_of_ble_eq_true hle
          split at h
          · rename_i cs hcs
            split at h
            · rename_i ds ups hds
              split at h
              · rename_i l hl
                simp only [Tree.run, Option.some.injEq] at h; subst h
                obtain ⟨vs, hfill, hvs⟩ := fillA_fill hcs (kCells_rep F r (madeCells z.cells (len * i.size)).toList) hu
                have hci := fillA_inn hcs (kCells_inn D _) hp
                obtain ⟨F', f1, f2, f3, f5, f4⟩ := deepL_spec hs hm hds hci
                have hvs' := f4 vs hvs
                have hone : ∀ v ∈ vs, v.oneCell' = true := by
                  have hokc : okAll cs = true := by
                    have key : ∀ {parts : List (Nat × Part)} {cells cells' : List Cell}, fillA (fun k => some (k * i.size, i.size)) cells parts = some cells' → okAll cells = true → okAll cells' = true := by
                      intro parts
                      induction parts with
                      | nil => intro cells cells' h1 h2; simp [fillA] at h1; subst h1; exact h2
                      | cons p rest ih =>
                        obtain ⟨k, x⟩ := p
                        intro cells cells' h1 h2
                        simp only [fillA] at h1
                        cases hb : (Nat.beq x.cells.length i.size && (Nat.ble (k * i.size + x.cells.length) cells.length && okAll x.cells)) with
                        | false => rw [hb] at h1; cases h1
                        | true =>
                          rw [hb] at h1
                          simp only [cond_true] at h1
                          simp only [Bool.and_eq_true] at hb
                          refine ih h1 ?_
                          have all : ∀ {l : List Cell}, okAll l = true ↔ ∀ c ∈ l, c.ok = true := by
                            intro l
                            induction l with
                            | nil => simp [okAll]
                            | cons c l ih => simp [okAll, ih]
                          rw [all] at h2 ⊢
                          intro c hc
                          rcases putR_mem hc with hc | hc
                          · exact h2 c hc
                          · exact all.1 hb.2.2 c hc
                    exact key hcs hok
                  exact okAll_one hokc hvs
                obtain ⟨g1, g2, g3⟩ := litRows_vals hl hvs' hone
                have hvl : vs.length = len * i.size := by
                  have a1 := cellsRep_length hvs
                  have key : ∀ {parts : List (Nat × Part)} {cells cells' : List Cell}, fillA (fun k => some (k * i.size, i.size)) cells parts = some cells' → cells'.length = cells.length := by
                    intro parts
                    induction parts with
                    | nil => intro cells cells' h1; simp [fillA] at h1; subst h1; rfl
                    | cons p rest ih =>
                      obtain ⟨k, x⟩ := p
                      intro cells cells' h1
                      simp only [fillA] at h1
                      cases hb : (Nat.beq x.cells.length i.size && (Nat.ble (k * i.size + x.cells.length) cells.length && okAll x.cells)) with
                      | false => rw [hb] at h1; cases h1
                      | true =>
                        rw [hb] at h1
                        simp only [cond_true] at h1
                        simp only [Bool.and_eq_true] at hb
                        rw [ih h1, putR_length (Nat.le_of_ble_eq_true hb.2.1)]
                  have a2 := key hcs
                  have a3 := cellsRep_length (kCells_rep F r (madeCells z.cells (len * i.size)).toList)
                  rw [a1, a2, ← a3]; simp [size_madeCells]
                have htake : vs.take (len * ts.len) = vs := List.take_of_length_le (by rw [hvl, hsz]; exact Nat.le_refl _)
                rw [htake] at g3
                have hnx0 := hnx nx (Nat.le_refl _) (Nat.lt_succ_self _)
                refine ⟨.slice (some ⟨w.heap.size, 0, none⟩) len len, vs.toArray, e, len, locPut r nx ⟨w.heap.size, 0, .slice (some ⟨w.heap.size, 0, none⟩) l.length len⟩, F', ht, rfl, ?_, rfl, rfl, fun fz hfz => ⟨locPut_agree r hnx0 _, f1, ?_, fun av hav => ?_⟩⟩
                · have hgt : ¬ (16777216 < len * i.size) := by omega
                  have hfill' : Instr.fill (fun k => some (k * i.size, i.size)) ((Array.range (len * i.size)).map (z.cells[· % z.cells.size]!)) us = some vs.toArray := by
                    have : (madeCells z.cells (len * i.size)).toList.toArray = (Array.range (len * i.size)).map (z.cells[· % z.cells.size]!) := by rw [Array.toArray_toList]; rfl
                    rw [this] at hfill; exact hfill
                  by_cases hne : len * i.size = 0
                  · have hr : (Array.range (len * i.size)).map (z.cells[· % z.cells.size]!) = #[] := by rw [hne]; simp
                    have hr2 : (Array.range (len * i.size)).map ((#[] : Array Value)[· % (#[] : Array Value).size]!) = #[] := by rw [hne]; simp
                    rw [hr] at hfill'
                    have hne' : len = 0 ∨ i.size = 0 := Nat.mul_eq_zero.1 hne
                    simp only [Instr.buildSlice, Sem.run_bind, run_underlying ht, sizeOf, typeInfo, run_program, hi, Result.andThen_ok, Sem.run_pure, hne, if_true, if_neg (show ¬ (0 > 2 ^ 24) by omega)]
                    rw [hne] at hr2
                    rw [hr2]
                    simp [hfill', newRow]
                  · simp [Instr.buildSlice, run_underlying ht, sizeOf, typeInfo, hi, zeroValue, hz, hne, hgt, hfill', newRow]
                · have := f2.newRow hnx0 (js := []) (fun j hj => by cases hj) g3 (arr := vs.toArray) (rest := []) (by simp) (cap := len) (by simp [hvl, hsz]) (by rw [g1]; exact Nat.le_refl _) (by
                    have : len ≤ len * i.size := Nat.le_mul_of_pos_right len hpos
                    exact Nat.le_trans (by omega : len ≤ 16777216) (by decide)) (w1 := w) rfl (Below.refl _ _) e fz hfz
                  have e2 : updH [(nx, .row ts l)] (updH ups H) = updH ((nx, .row ts l) :: ups) H := rfl
                  simp only [deads] at this
                  rw [e2] at this
                  exact this.monoD (fun j => More_one)
                · injection hav with hav; subst hav
                  exact ⟨⟨by rw [locPut_self, g1], rfl⟩, More_one (.inr rfl)⟩
              · cases h
            · cases h
          · cases h
      · cases h
    · cases h
  · cases h
theorem buildSliceT_run (hs : ∀ j ob, Hr j = some ob → H j = some ob) (hm : Mem w0 S R0 D H F r w) {nx : Nat} {eff : Eff} (hnx : ∀ j, nx ≤ j → j < nx + eff.nn → ¬ D j) {t : TypeId} {len : Nat} {ps : List (Nat × Part)}
    (h : (buildSliceT P Hr nx t len ps).run = some eff) {us : List (Nat × Value)} (hu : ipRep F r ps us) (hp : ∀ p ∈ ps, p.2.inn D) : ∃ v w' r' F', (Instr.buildSlice t len us.toArray).run P w = .ok v w' ∧ After w0 S R0 D H F r nx eff F' r' w' v := by
  obtain ⟨v, arr, e, n, r', F', _, _, g1, _, _, g2⟩ := buildSliceT_run2 hs hm hnx h hu hp
  exact ⟨v, _, r', F', g1, g2 (0, 0) (.inr rfl)⟩
end
end Go.Sz
namespace Go.Sz
open Go Go.RowKit Go.Sy
set_option linter.unusedVariables false
set_option linter.unusedSimpArgs false
set_option linter.constructorNameAsVariable false
def quietT (t : Tree AV) : Tree Eff := t.bind fun av => .ret ⟨some av, [], 0⟩
theorem quietT_run {t : Tree AV} {eff : Eff} (h : (quietT t).run = some eff) : ∃ av, t.run = some av ∧ eff = ⟨some av, [], 0⟩ := by
  obtain ⟨av, h1, h2⟩ := Tree.run_bind_some h
  simp only [Tree.run, Option.some.injEq] at h2
  exact ⟨av, h1, h2.symm⟩
def memT (P : Program) (H : Hf) (E : Ef) (nx : Nat) (o : Oper) : Tree Eff :=
  match o.op with
  | .alloc t => match pureSem P (zeroValue t) with
    | some v => bif okAll (ofK1 v).cells then .ret ⟨some (AV.c (.p nx 0)), [(nx, .lit (ofK1 v).cells)], 1⟩ else .fail
    | none => .fail
  | .box _ x => match evalO E x with
    | some (.p q) => bif okAll q.cells then .ret ⟨some (AV.c (.p nx 0)), [(nx, .lit q.cells)], 1⟩ else .fail
    | _ => .fail
  | .store t a x => match evalO E a, evalO E x with
    | some (.p (.one ca)), some (.p q) => match storeT P H t ca q with
      | some ups => .ret ⟨none, ups, 0⟩
      | none => .fail
    | _, _ => .fail
  | .makeSlice t l c => match evalO E l, evalO E c with
    | some (.p (.one a)), some (.p (.one b)) => match intOf a, intOf b with
      | some n, some m => makeT P nx t n m
      | _, _ => .fail
    | _, _ => .fail
  | .buildSlice t len parts => match evalParts E parts.toList with
    | some ps => buildSliceT P H nx t len ps
    | none => .fail
  | .convert src dst x => convT P H E nx o src dst x
  | .call c => match c.callee, c.args.toList with
    | .builtin .append, [x, y] => match evalO E x, evalO E y with
      | some (.p (.one a)), some (.p (.one b)) => match c.argTypes.toList with
        | t :: _ => match P.underlying t with
          | some (.slice e) => match tsFor P H e a with
            | some ts => appendT P H nx c.argTypes.toList a b ts
            | none => .fail
          | _ => .fail
        | [] => .fail
      | _, _ => .fail
    | .builtin .copy, [x, y] => match evalO E x, evalO E y with
      | some (.p (.one a)), some (.p (.one b)) => copyT P H c.argTypes.toList a b
      | _, _ => .fail
    | _, _ => quietT (silT P H E o)
  | _ => quietT (silT P H E o)
section
variable {P : Program} {w0 : World} {S : Nat → Nat → Prop} {R0 : Frag} {D : Nat → Prop} {H Hr : Hf} {F : Frag} {r : Loc} {w : World} {E : Ef}
def Out (P : Program) (w0 : World) (S : Nat → Nat → Prop) (R0 : Frag) (D : Nat → Prop) (H : Hf) (F : Frag) (r : Loc) (nx : Nat) (eff : Eff) (o : Oper) (a : Act) (w : World) : Prop :=
  ∃ n v w' F' r', (execOp a.eval o).run P w = .ok n w' ∧ (n = .value v ∨ n = .skip ∧ v = undef) ∧ After w0 S R0 D H F r nx eff F' r' w' v
theorem sil_out (hs : ∀ j ob, Hr j = some ob → H j = some ob) (hm : Mem w0 S R0 D H F r w) {nx : Nat} {o : Oper} {eff : Eff} (h : (quietT (silT P Hr E o)).run = some eff) {a : Act} (he : EnvR F r E a) (hi : EnvIn D E) : Out P w0 S R0 D H F r nx eff o a w := by
  obtain ⟨av, h1, rfl⟩ := quietT_run h
  obtain ⟨v, g1, g2, g3⟩ := sil_run (hm.sees.sub hs) h1 he hi
  exact ⟨_, v, w, F, r, g1, .inl rfl, after_same rfl hm fun av' hav => by injection hav with hav; subst hav; exact ⟨g2, g3⟩⟩
theorem conv_out (hs : ∀ j ob, Hr j = some ob → H j = some ob) (hm : Mem w0 S R0 D H F r w) {nx : Nat} {eff : Eff} (hnx : ∀ j, nx ≤ j → j < nx + eff.nn → ¬ D j) {o : Oper} {src dst : TypeId} {x : Operand} (ho : o.op = .convert src dst x) (h : (convT P Hr E nx o src dst x).run = some eff) {a : Act} (he : EnvR F r E a) (hi : EnvIn D E) : Out P w0 S R0 D H F r nx eff o a w := by
  unfold convT at h
  split at h
  · rename_i e c hsrc hdst hx
    cases hb : (isBytes P e && isSl c) with
    | false => rw [hb] at h; cases h
    | true =>
      rw [hb] at h
      simp only [cond_true] at h
      simp only [Bool.and_eq_true] at hb
      obtain ⟨l, hl, h⟩ := Tree.run_bind_some h
      simp only [Tree.run, Option.some.injEq] at h; subst h
      have hu := evalO_rep he hx
      obtain ⟨vs, hvs, hr⟩ := contT_run (P := P) (hm.sees.sub hs) hl hu
      have hform : ∃ b n c, a.eval x = .slice b n c := by
        have hb2 := hb.2
        have hu' : c.rep F r (a.eval x) := hu
        unfold isSl at hb2
        split at hb2 <;> try (cases hb2; done)
        · rename_i ts l'
          have h0 : RepT F (.sl ts) l' (a.eval x) := hu'
          simp only [RepT] at h0
          obtain ⟨b, cap, e, _⟩ := h0; exact ⟨_, _, _, e⟩
        · rename_i j
          have hl2 := hr.1
          unfold Builtin.lenOf at hl2
          split at hl2
          · exact ⟨_, _, _, by assumption⟩
          · rename_i hh
            exfalso
            obtain ⟨e1, e2⟩ := hu'
            simp only [contT] at hl
            split at hl
            · rename_i hj
              rcases row_nil (hm.obs j _ (hs _ _ hj)) with ⟨k1, _⟩ | ⟨_, k1, _⟩ <;> rw [k1] at e1 <;> rw [e1] at hh <;> cases hh
            · rename_i ts l' hj
              have h0 : RepT F (.sl ts) l' (r j).hv := hm.obs j _ (hs _ _ hj)
              simp only [RepT] at h0
              obtain ⟨b, cap, e, _⟩ := h0
              rw [e] at e1; rw [e1] at hh; cases hh
            · cases hl
          · cases hl2
        · rename_i j sz lo n mx
          obtain ⟨e1, e2⟩ := hu'
          rw [e1]
          unfold subHdr
          split
          · exact ⟨_, _, _, rfl⟩
          · rename_i hh
            exfalso
            simp only [contT] at hl
            split at hl
            · rename_i hj
              rcases row_nil (hm.obs j _ (hs _ _ hj)) with ⟨k1, _⟩ | ⟨_, k1, _⟩ <;> exact hh _ _ _ k1
            · cases hl
        · exact ⟨_, _, _, hu'⟩
        · exact ⟨_, _, _, hu'⟩
      have hrun := bytesToString_run hsrc (isBytes_spec hb.1) hdst hvs hr hform
      refine ⟨.value (.string (strOf l)), _, w, F, r, ?_, .inl rfl, after_same rfl hm fun av hav => by injection hav with hav; subst hav; exact ⟨rfl, trivial⟩⟩
      simp only [execOp, ho, Sem.run_bind, hrun, Result.andThen_ok, Sem.run_pure]
  · rename_i e s hsrc hdst hx
    cases hb : (isBytes P e && Nat.ble s.size 140737488355328) with
    | false => rw [hb] at h; cases h
    | true =>
      rw [hb] at h
      simp only [cond_true, Tree.run, Option.some.injEq] at h; subst h
      simp only [Bool.and_eq_true] at hb
      have hsz : s.size ≤ 140737488355328 := Nat.le_of_ble_eq_true hb.2
      have hu : a.eval x = .string s := evalO_rep he hx
      have hrun := run_bytes_of_string (P := P) w src dst e s hsrc hdst (isBytes_spec hb.1)
      have hge := grownCap_ge w s.size 0 e
      have hcm := grownCap_le_maxLen w s.size 0 e (Nat.le_trans hsz (by decide))
      generalize grownCap w s.size 0 e = gc at hrun hge hcm
      obtain ⟨g1, g2⟩ := strRows_vals (F := F) (P := P) (w := w) s
      have hlen := strRows_len s
      have hbs : (bytesRow s gc).size = gc * bytesTs.len := by
        simp [bytesRow, Tys.len]; omega
      have hnx0 := hnx nx (Nat.le_refl _) (Nat.lt_succ_self _)
      have := hm.newRow hnx0 (js := []) (fun j hj => by cases hj) g1 (arr := bytesRow s gc) (rest := List.replicate (gc - s.size) (.int .u8 0)) (by simp [bytesRow]) (cap := gc) hbs (by rw [hlen]; exact hge) hcm (w1 := w.drew) rfl ((Below.refl _ _).drew) e ((bytesRow s gc).size, (bytesRow s gc).size + 1) (.inl (Nat.le_refl _))
      rw [hlen] at this
      refine ⟨_, .slice (some ⟨w.heap.size, 0, none⟩) s.size gc, _, F, _, ?_, .inl rfl, locPut_agree r hnx0 _, Frag.le_refl F, this.monoD (fun j => More_one), fun av hav => ?_⟩
      · simp only [execOp, ho, hu, Sem.run_bind, hrun, Result.andThen_ok, Sem.run_pure]
      · injection hav with hav; subst hav
        exact ⟨⟨by rw [locPut_self], rfl⟩, More_one (.inr rfl)⟩
  · exact sil_out hs hm h he hi
theorem mem_out (hs : ∀ j ob, Hr j = some ob → H j = some ob) (hm : Mem w0 S R0 D H F r w) {nx : Nat} {eff : Eff} (hnx : ∀ j, nx ≤ j → j < nx + eff.nn → ¬ D j) {o : Oper} (h : (memT P Hr E nx o).run = some eff) {a : Act} (he : EnvR F r E a) (hi : EnvIn D E) : Out P w0 S R0 D H F r nx eff o a w := by
  have hnx0 : eff.nn = 1 → ¬ D nx := fun e => hnx nx (Nat.le_refl _) (by omega)
  have hsil : (quietT (silT P Hr E o)).run = some eff → Out P w0 S R0 D H F r nx eff o a w := fun h => sil_out hs hm h he hi
  unfold memT at h
  split at h
  · -- alloc
    rename_i t ho
    split at h
    · rename_i v hv
      cases hok : okAll (ofK1 v).cells with
      | false => rw [hok] at h; cases h
      | true =>
        rw [hok] at h
        simp only [cond_true, Tree.run, Option.some.injEq] at h; subst h
        obtain ⟨vs, h1, h2, h3⟩ := Part.cells_rep hok (ofK1_rep F r v)
        refine ⟨_, .pointer (some ⟨w.heap.size, 0, none⟩), _, F, _, ?_, .inl rfl, locPut_agree r (hnx0 rfl) _, Frag.le_refl F, (hm.newLit (hnx0 rfl) (Part.cells_inn (ofK1_inn D v)) h2 h3 t).monoD (fun j => More_one), fun av hav => ?_⟩
        · simp [execOp, ho, Instr.alloc, Sem.run_bind, pureSem_run hv, newVar, newRow, h1]
        · injection hav with hav; subst hav
          exact ⟨by simp [AV.rep, Part.rep, Cell.rep, locPut_self], More_one (.inr rfl)⟩
    · cases h
  · -- box
    rename_i t x ho
    split at h
    · rename_i q hq
      cases hok : okAll q.cells with
      | false => rw [hok] at h; cases h
      | true =>
        rw [hok] at h
        simp only [cond_true, Tree.run, Option.some.injEq] at h; subst h
        obtain ⟨vs, h1, h2, h3⟩ := Part.cells_rep hok (evalO_rep he hq)
        refine ⟨_, .pointer (some ⟨w.heap.size, 0, none⟩), _, F, _, ?_, .inl rfl, locPut_agree r (hnx0 rfl) _, Frag.le_refl F, (hm.newLit (hnx0 rfl) (Part.cells_inn (evalO_inn hi hq)) h2 h3 t).monoD (fun j => More_one), fun av hav => ?_⟩
        · simp [execOp, ho, Instr.box, Sem.run_bind, newVar, newRow, h1]
        · injection hav with hav; subst hav
          exact ⟨by simp [AV.rep, Part.rep, Cell.rep, locPut_self], More_one (.inr rfl)⟩
    · cases h
  · -- store
    rename_i t x y ho
    split at h
    · rename_i ca q hx hy
      split at h
      · rename_i ups hups
        simp only [Tree.run, Option.some.injEq] at h; subst h
        obtain ⟨w', F', g1, g2, g3⟩ := storeT_run hs hm hups (evalO_rep he hx) (evalO_rep he hy) (evalO_inn hi hy)
        refine ⟨.skip, undef, w', F', r, ?_, .inr ⟨rfl, rfl⟩, fun _ _ => rfl, g2, g3.monoD (fun j h => .inl h), fun av hav => by cases hav⟩
        simp only [execOp, ho, Sem.run_bind, g1, Result.andThen_ok, Sem.run_pure]
      · cases h
    · cases h
  · -- makeSlice
    rename_i t l c ho
    split at h
    · rename_i x y hx hy
      split at h
      · rename_i n m hn hm'
        obtain ⟨kn, hkn⟩ := intOf_rep hn (evalO_rep he hx)
        obtain ⟨km, hkm⟩ := intOf_rep hm' (evalO_rep he hy)
        obtain ⟨v, w', r', g1, g2⟩ := makeT_run hm hnx h kn km
        refine ⟨_, v, w', F, r', ?_, .inl rfl, g2⟩
        simp only [execOp, ho, hkn, hkm, Sem.run_bind, g1, Result.andThen_ok, Sem.run_pure]
      · cases h
    · cases h
  · -- buildSlice
    rename_i t len parts ho
    split at h
    · rename_i ps hps
      obtain ⟨v, w', r', F', g1, g2⟩ := buildSliceT_run hs hm hnx h (evalParts_rep he hps) (evalParts_inn hi hps)
      have h1 : (parts.map fun (p : Nat × Operand) => (p.1, a.eval p.2)) = (parts.toList.map fun (p : Nat × Operand) => (p.1, a.eval p.2)).toArray := by
        apply Array.ext'; simp
      rw [← h1] at g1
      refine ⟨_, v, w', F', r', ?_, .inl rfl, g2⟩
      simp only [execOp, ho, Sem.run_bind]
      exact (congrArg (fun y => Result.andThen y _) g1).trans rfl
    · cases h
  · -- convert
    rename_i src dst x ho
    exact conv_out hs hm hnx ho h he hi
  · -- builtins
    rename_i c ho
    split at h
    · rename_i x y hcal hargs
      split at h
      · rename_i p q hx hy
        split at h
        · split at h
          · split at h
            · have ha : c.args.map a.eval = #[a.eval x, a.eval y] := by
                apply Array.ext'
                rw [Array.toList_map, hargs]; rfl
              obtain ⟨v, w', r', g1, g2⟩ := appendT_run (P := P) hs hm hnx h (evalO_rep he hx) (evalO_rep he hy) o.type
              refine ⟨_, v, w', F, r', ?_, .inl rfl, g2⟩
              simp only [execOp, ho, resolve, hcal, Sem.run_bind, Sem.run_pure, Result.andThen_ok, invoke, ha, builtin, g1]
            · cases h
          · cases h
        · cases h
      · cases h
    · rename_i x y hcal hargs
      split at h
      · rename_i p q hx hy
        have ha : c.args.map a.eval = #[a.eval x, a.eval y] := by
          apply Array.ext'
          rw [Array.toList_map, hargs]; rfl
        obtain ⟨v, w', g1, g2⟩ := copyT_run (P := P) (nx := nx) hs hm h (evalO_rep he hx) (evalO_rep he hy) o.type
        refine ⟨_, v, w', F, r, ?_, .inl rfl, g2⟩
        simp only [execOp, ho, resolve, hcal, Sem.run_bind, Sem.run_pure, Result.andThen_ok, invoke, ha, builtin, g1]
      · cases h
    · exact hsil h
  · exact hsil h
end
end Go.Sz
