/-
  A symbolic machine for one call, with rows of any length: all operations but calls of functions.
-/
import Derived.Test.YtoljppjibhnndaaSzQ
namespace Go.Sz
open Go Go.RowKit Go.Sy
set_option linter.unusedVariables false
set_option linter.unusedSimpArgs false
set_option linter.constructorNameAsVariable false

def quietT (t : Tree AV) : Tree Eff := t.bind fun av => .ret ⟨some av, [], 0⟩

theorem quietT_run {t : Tree AV} {eff : Eff} (h : (quietT t).run = some eff) : ∃ av, t.run = some av ∧ eff = ⟨some av, [], 0⟩ := by
  obtain ⟨av, h1, h2⟩ := Tree.run_bind_some h
  simp only [Tree.run, Option.some.injEq] at h2
  exact ⟨av, h1, h2.symm⟩

def memT (P : Program) (H : Hf) (E : Ef) (nx : Nat) (o : Oper) : Tree Eff :=
  match o.op with
  | .alloc t => match pureSem P (zeroValue t) with
    | some v => bif okAll (ofK1 v).cells then .ret ⟨some (AV.c (.p nx 0)), [(nx, .lit (ofK1 v).cells)], 1⟩ else .fail
    | none => .fail
  | .box _ x => match evalO E x with
    | some (.p q) => bif okAll q.cells then .ret ⟨some (AV.c (.p nx 0)), [(nx, .lit q.cells)], 1⟩ else .fail
    | _ => .fail
  | .store t a x => match evalO E a, evalO E x with
    | some (.p (.one ca)), some (.p q) => match storeT P H t ca q with
      | some ups => .ret ⟨none, ups, 0⟩
      | none => .fail
    | _, _ => .fail
  | .makeSlice t l c => match evalO E l, evalO E c with
    | some (.p (.one a)), some (.p (.one b)) => match intOf a, intOf b with
      | some n, some m => makeT P nx t n m
      | _, _ => .fail
    | _, _ => .fail
  | .buildSlice t len parts => match evalParts E parts.toList with
    | some ps => buildSliceT P H nx t len ps
    | none => .fail
  | .convert src dst x => convT P H E nx o src dst x
  | .call c => match c.callee, c.args.toList with
    | .builtin .append, [x, y] => match evalO E x, evalO E y with
      | some (.p (.one a)), some (.p (.one b)) => match c.argTypes.toList with
        | t :: _ => match P.underlying t with
          | some (.slice e) => match tsFor P H e a with
            | some ts => appendT P H nx c.argTypes.toList a b ts
            | none => .fail
          | _ => .fail
        | [] => .fail
      | _, _ => .fail
    | .builtin .copy, [x, y] => match evalO E x, evalO E y with
      | some (.p (.one a)), some (.p (.one b)) => copyT P H c.argTypes.toList a b
      | _, _ => .fail
    | _, _ => quietT (silT P H E o)
  | _ => quietT (silT P H E o)

section
variable {P : Program} {w0 : World} {S : Nat → Nat → Prop} {R0 : Frag} {D : Nat → Prop} {H Hr : Hf} {F : Frag} {r : Loc} {w : World} {E : Ef}

/-- What comes of an operation that enters no function. -/
def Out (P : Program) (w0 : World) (S : Nat → Nat → Prop) (R0 : Frag) (D : Nat → Prop) (H : Hf) (F : Frag) (r : Loc) (nx : Nat) (eff : Eff) (o : Oper) (a : Act) (w : World) : Prop :=
  ∃ n v w' F' r', (execOp a.eval o).run P w = .ok n w' ∧ (n = .value v ∨ n = .skip ∧ v = undef) ∧ After w0 S R0 D H F r nx eff F' r' w' v

theorem sil_out (hs : ∀ j ob, Hr j = some ob → H j = some ob) (hm : Mem w0 S R0 D H F r w) {nx : Nat} {o : Oper} {eff : Eff} (h : (quietT (silT P Hr E o)).run = some eff) {a : Act} (he : EnvR F r E a) (hi : EnvIn D E) : Out P w0 S R0 D H F r nx eff o a w := by
  obtain ⟨av, h1, rfl⟩ := quietT_run h
  obtain ⟨v, g1, g2, g3⟩ := sil_run (hm.sees.sub hs) h1 he hi
  exact ⟨_, v, w, F, r, g1, .inl rfl, after_same rfl hm fun av' hav => by injection hav with hav; subst hav; exact ⟨g2, g3⟩⟩

theorem conv_out (hs : ∀ j ob, Hr j = some ob → H j = some ob) (hm : Mem w0 S R0 D H F r w) {nx : Nat} {eff : Eff} (hnx : ∀ j, nx ≤ j → j < nx + eff.nn → ¬ D j) {o : Oper} {src dst : TypeId} {x : Operand} (ho : o.op = .convert src dst x) (h : (convT P Hr E nx o src dst x).run = some eff) {a : Act} (he : EnvR F r E a) (hi : EnvIn D E) : Out P w0 S R0 D H F r nx eff o a w := by
  unfold convT at h
  split at h
  · rename_i e c hsrc hdst hx
    cases hb : (isBytes P e && isSl c) with
    | false => rw [hb] at h; cases h
    | true =>
      rw [hb] at h
      simp only [cond_true] at h
      simp only [Bool.and_eq_true] at hb
      obtain ⟨l, hl, h⟩ := Tree.run_bind_some h
      simp only [Tree.run, Option.some.injEq] at h; subst h
      have hu := evalO_rep he hx
      obtain ⟨vs, hvs, hr⟩ := contT_run (P := P) (hm.sees.sub hs) hl hu
      have hform : ∃ b n c, a.eval x = .slice b n c := by
        have hb2 := hb.2
        have hu' : c.rep F r (a.eval x) := hu
        unfold isSl at hb2
        split at hb2 <;> try (cases hb2; done)
        · rename_i ts l'
          have h0 : RepT F (.sl ts) l' (a.eval x) := hu'
          simp only [RepT] at h0
          obtain ⟨b, cap, e, _⟩ := h0; exact ⟨_, _, _, e⟩
        · rename_i j
          have hl2 := hr.1
          unfold Builtin.lenOf at hl2
          split at hl2
          · exact ⟨_, _, _, by assumption⟩
          · rename_i hh
            exfalso
            obtain ⟨e1, e2⟩ := hu'
            simp only [contT] at hl
            split at hl
            · rename_i hj
              rcases row_nil (hm.obs j _ (hs _ _ hj)) with ⟨k1, _⟩ | ⟨_, k1, _⟩ <;> rw [k1] at e1 <;> rw [e1] at hh <;> cases hh
            · rename_i ts l' hj
              have h0 : RepT F (.sl ts) l' (r j).hv := hm.obs j _ (hs _ _ hj)
              simp only [RepT] at h0
              obtain ⟨b, cap, e, _⟩ := h0
              rw [e] at e1; rw [e1] at hh; cases hh
            · cases hl
          · cases hl2
        · rename_i j sz lo n mx
          obtain ⟨e1, e2⟩ := hu'
          rw [e1]
          unfold subHdr
          split
          · exact ⟨_, _, _, rfl⟩
          · rename_i hh
            exfalso
            simp only [contT] at hl
            split at hl
            · rename_i hj
              rcases row_nil (hm.obs j _ (hs _ _ hj)) with ⟨k1, _⟩ | ⟨_, k1, _⟩ <;> exact hh _ _ _ k1
            · cases hl
        · exact ⟨_, _, _, hu'⟩
        · exact ⟨_, _, _, hu'⟩
      have hrun := bytesToString_run hsrc (isBytes_spec hb.1) hdst hvs hr hform
      refine ⟨.value (.string (strOf l)), _, w, F, r, ?_, .inl rfl, after_same rfl hm fun av hav => by injection hav with hav; subst hav; exact ⟨rfl, trivial⟩⟩
      simp only [execOp, ho, Sem.run_bind, hrun, Result.andThen_ok, Sem.run_pure]
  · rename_i e s hsrc hdst hx
    cases hb : (isBytes P e && Nat.ble s.size 140737488355328) with
    | false => rw [hb] at h; cases h
    | true =>
      rw [hb] at h
      simp only [cond_true, Tree.run, Option.some.injEq] at h; subst h
      simp only [Bool.and_eq_true] at hb
      have hsz : s.size ≤ 140737488355328 := Nat.le_of_ble_eq_true hb.2
      have hu : a.eval x = .string s := evalO_rep he hx
      have hrun := run_bytes_of_string (P := P) w src dst e s hsrc hdst (isBytes_spec hb.1)
      have hge := grownCap_ge w s.size 0 e
      have hcm := grownCap_le_maxLen w s.size 0 e (Nat.le_trans hsz (by decide))
      generalize grownCap w s.size 0 e = gc at hrun hge hcm
      obtain ⟨g1, g2⟩ := strRows_vals (F := F) (P := P) (w := w) s
      have hlen := strRows_len s
      have hbs : (bytesRow s gc).size = gc * bytesTs.len := by
        simp [bytesRow, Tys.len]; omega
      have hnx0 := hnx nx (Nat.le_refl _) (Nat.lt_succ_self _)
      have := hm.newRow hnx0 (js := []) (fun j hj => by cases hj) g1 (arr := bytesRow s gc) (rest := List.replicate (gc - s.size) (.int .u8 0)) (by simp [bytesRow]) (cap := gc) hbs (by rw [hlen]; exact hge) hcm (w1 := w.drew) rfl ((Below.refl _ _).drew) e ((bytesRow s gc).size, (bytesRow s gc).size + 1) (.inl (Nat.le_refl _))
      rw [hlen] at this
      refine ⟨_, .slice (some ⟨w.heap.size, 0, none⟩) s.size gc, _, F, _, ?_, .inl rfl, locPut_agree r hnx0 _, Frag.le_refl F, this.monoD (fun j => More_one), fun av hav => ?_⟩
      · simp only [execOp, ho, hu, Sem.run_bind, hrun, Result.andThen_ok, Sem.run_pure]
      · injection hav with hav; subst hav
        exact ⟨⟨by rw [locPut_self], rfl⟩, More_one (.inr rfl)⟩
  · exact sil_out hs hm h he hi

theorem mem_out (hs : ∀ j ob, Hr j = some ob → H j = some ob) (hm : Mem w0 S R0 D H F r w) {nx : Nat} {eff : Eff} (hnx : ∀ j, nx ≤ j → j < nx + eff.nn → ¬ D j) {o : Oper} (h : (memT P Hr E nx o).run = some eff) {a : Act} (he : EnvR F r E a) (hi : EnvIn D E) : Out P w0 S R0 D H F r nx eff o a w := by
  have hnx0 : eff.nn = 1 → ¬ D nx := fun e => hnx nx (Nat.le_refl _) (by omega)
  have hsil : (quietT (silT P Hr E o)).run = some eff → Out P w0 S R0 D H F r nx eff o a w := fun h => sil_out hs hm h he hi
  unfold memT at h
  split at h
  · -- alloc
    rename_i t ho
    split at h
    · rename_i v hv
      cases hok : okAll (ofK1 v).cells with
      | false => rw [hok] at h; cases h
      | true =>
        rw [hok] at h
        simp only [cond_true, Tree.run, Option.some.injEq] at h; subst h
        obtain ⟨vs, h1, h2, h3⟩ := Part.cells_rep hok (ofK1_rep F r v)
        refine ⟨_, .pointer (some ⟨w.heap.size, 0, none⟩), _, F, _, ?_, .inl rfl, locPut_agree r (hnx0 rfl) _, Frag.le_refl F, (hm.newLit (hnx0 rfl) (Part.cells_inn (ofK1_inn D v)) h2 h3 t).monoD (fun j => More_one), fun av hav => ?_⟩
        · simp [execOp, ho, Instr.alloc, Sem.run_bind, pureSem_run hv, newVar, newRow, h1]
        · injection hav with hav; subst hav
          exact ⟨by simp [AV.rep, Part.rep, Cell.rep, locPut_self], More_one (.inr rfl)⟩
    · cases h
  · -- box
    rename_i t x ho
    split at h
    · rename_i q hq
      cases hok : okAll q.cells with
      | false => rw [hok] at h; cases h
      | true =>
        rw [hok] at h
        simp only [cond_true, Tree.run, Option.some.injEq] at h; subst h
        obtain ⟨vs, h1, h2, h3⟩ := Part.cells_rep hok (evalO_rep he hq)
        refine ⟨_, .pointer (some ⟨w.heap.size, 0, none⟩), _, F, _, ?_, .inl rfl, locPut_agree r (hnx0 rfl) _, Frag.le_refl F, (hm.newLit (hnx0 rfl) (Part.cells_inn (evalO_inn hi hq)) h2 h3 t).monoD (fun j => More_one), fun av hav => ?_⟩
        · simp [execOp, ho, Instr.box, Sem.run_bind, newVar, newRow, h1]
        · injection hav with hav; subst hav
          exact ⟨by simp [AV.rep, Part.rep, Cell.rep, locPut_self], More_one (.inr rfl)⟩
    · cases h
  · -- store
    rename_i t x y ho
    split at h
    · rename_i ca q hx hy
      split at h
      · rename_i ups hups
        simp only [Tree.run, Option.some.injEq] at h; subst h
        obtain ⟨w', F', g1, g2, g3⟩ := storeT_run hs hm hups (evalO_rep he hx) (evalO_rep he hy) (evalO_inn hi hy)
        refine ⟨.skip, undef, w', F', r, ?_, .inr ⟨rfl, rfl⟩, fun _ _ => rfl, g2, g3.monoD (fun j h => .inl h), fun av hav => by cases hav⟩
        simp only [execOp, ho, Sem.run_bind, g1, Result.andThen_ok, Sem.run_pure]
      · cases h
    · cases h
  · -- makeSlice
    rename_i t l c ho
    split at h
    · rename_i x y hx hy
      split at h
      · rename_i n m hn hm'
        obtain ⟨kn, hkn⟩ := intOf_rep hn (evalO_rep he hx)
        obtain ⟨km, hkm⟩ := intOf_rep hm' (evalO_rep he hy)
        obtain ⟨v, w', r', g1, g2⟩ := makeT_run hm hnx h kn km
        refine ⟨_, v, w', F, r', ?_, .inl rfl, g2⟩
        simp only [execOp, ho, hkn, hkm, Sem.run_bind, g1, Result.andThen_ok, Sem.run_pure]
      · cases h
    · cases h
  · -- buildSlice
    rename_i t len parts ho
    split at h
    · rename_i ps hps
      obtain ⟨v, w', r', F', g1, g2⟩ := buildSliceT_run hs hm hnx h (evalParts_rep he hps) (evalParts_inn hi hps)
      have h1 : (parts.map fun (p : Nat × Operand) => (p.1, a.eval p.2)) = (parts.toList.map fun (p : Nat × Operand) => (p.1, a.eval p.2)).toArray := by
        apply Array.ext'; simp
      rw [← h1] at g1
      refine ⟨_, v, w', F', r', ?_, .inl rfl, g2⟩
      simp only [execOp, ho, Sem.run_bind]
      exact (congrArg (fun y => Result.andThen y _) g1).trans rfl
    · cases h
  · -- convert
    rename_i src dst x ho
    exact conv_out hs hm hnx ho h he hi
  · -- builtins
    rename_i c ho
    split at h
    · rename_i x y hcal hargs
      split at h
      · rename_i p q hx hy
        split at h
        · split at h
          · split at h
            · have ha : c.args.map a.eval = #[a.eval x, a.eval y] := by
                apply Array.ext'
                rw [Array.toList_map, hargs]; rfl
              obtain ⟨v, w', r', g1, g2⟩ := appendT_run (P := P) hs hm hnx h (evalO_rep he hx) (evalO_rep he hy) o.type
              refine ⟨_, v, w', F, r', ?_, .inl rfl, g2⟩
              simp only [execOp, ho, resolve, hcal, Sem.run_bind, Sem.run_pure, Result.andThen_ok, invoke, ha, builtin, g1]
            · cases h
          · cases h
        · cases h
      · cases h
    · rename_i x y hcal hargs
      split at h
      · rename_i p q hx hy
        have ha : c.args.map a.eval = #[a.eval x, a.eval y] := by
          apply Array.ext'
          rw [Array.toList_map, hargs]; rfl
        obtain ⟨v, w', g1, g2⟩ := copyT_run (P := P) (nx := nx) hs hm h (evalO_rep he hx) (evalO_rep he hy) o.type
        refine ⟨_, v, w', F, r, ?_, .inl rfl, g2⟩
        simp only [execOp, ho, resolve, hcal, Sem.run_bind, Sem.run_pure, Result.andThen_ok, invoke, ha, builtin, g1]
      · cases h
    · exact hsil h
  · exact hsil h
end
end Go.Sz
