/-
  A symbolic machine for one call, with rows of any length: all operations that turn nothing.
-/
import Derived.Test.YtoljppjibhnndaaSzG
namespace Go.Sz
open Go Go.RowKit Go.Sy
set_option linter.unusedVariables false
set_option linter.unusedSimpArgs false
set_option linter.constructorNameAsVariable false

/-! ### index -/
def byteAt (s : ByteArray) (i : Nat) : BitVec 8 := match s[i]? with
  | some b => b.toBitVec
  | none => 0#8

def indexT (P : Program) (t : TypeId) (x : Part) (i : Int) (lit : Bool) : Tree Part :=
  match P.underlying t, x with
  | some (.array len elem), .many l => match pureSem P (sizeOf elem) with
    | some sz => .ck (inB i len) (bif lit then Tree.ofOpt (partA P elem l (i.toNat * sz)) else match pureSem P (isAgg elem) with
      | some false => match gath l sz len 0 with
        | some cs => match selC cs i.toNat with
          | some c => .ret (.one c)
          | none => (selT cs i.toNat 0).bind fun c => .ret (.one c)
        | none => .fail
      | some true => match selL l sz len i.toNat sz 0 with
        | some cs => .ret (.many cs)
        | none => .fail
      | none => .fail)
    | none => .fail
  | some .string, .one (.v (.string s)) => .ck (inB i s.size) (.ret (.one (.w .u8 (byteAt s i.toNat))))
  | _, _ => .fail

section
variable {P : Program} {F : Frag} {r : Loc} {D : Nat → Prop} {w : World} {H : Hf}

theorem indexT_run {t : TypeId} {x y : Part} {i : Int} {lit : Bool} (h : (indexT P t x i lit).run = some y) {u : Value} (hu : x.rep F r u) (hx : x.inn D) (k : IntKind) :
    ∃ v, (Instr.index t u (.int k i)).run P w = .ok v w ∧ y.rep F r v ∧ y.inn D := by
  unfold indexT at h
  split at h
  · rename_i len elem l hut
    obtain ⟨us, hus, rfl⟩ := hu
    split at h
    · rename_i sz hsz
      obtain ⟨hb, h⟩ := Tree.run_ck h
      have hi := inB_spec hb
      have h2 : 0 ≤ i ∧ i < (len : Int) := ⟨hi.1, hi.2.1⟩
      have hrun : (Instr.index t (.agg us.toArray) (.int k i)).run P w = (part elem us.toArray (i.toNat * sz)).run P w := by
        simp only [Instr.index, asIntOf, Sem.run_bind, Sem.run_pure, Result.andThen_ok, run_underlying hut, if_pos h2, pureSem_run hsz]
      rw [hrun]
      cases lit with
      | true =>
        simp only [cond_true, Tree.run_ofOpt] at h
        obtain ⟨v, g1, g2⟩ := partA_run (w := w) hus h
        exact ⟨v, g1, g2, partA_inn hx h⟩
      | false =>
        simp only [cond_false] at h
        split at h
        · rename_i hagg
          split at h
          · rename_i cs hcs
            obtain ⟨g1, g2⟩ := gath_spec hcs
            have hgi : cs[i.toNat]? = some (cs[i.toNat]'(by omega)) := List.getElem?_eq_getElem _
            have hli := (g2 i.toNat hi.2.2).trans hgi
            rw [Nat.zero_add] at hli
            obtain ⟨v, hv, hvr⟩ := cellsRep_get hus _ _ hli
            have hp : (part elem us.toArray (i.toNat * sz)).run P w = .ok v w := by
              unfold part
              rw [Sem.run_bind, pureSem_run hagg]
              simp [hv]
            split at h
            · rename_i c hc
              simp only [Tree.run, Option.some.injEq] at h; subst h
              obtain ⟨k1, k2⟩ := selC_rep (D := D) hc hgi hvr
              exact ⟨v, hp, k1, k2⟩
            · obtain ⟨c, hc, h⟩ := Tree.run_bind_some h
              simp only [Tree.run, Option.some.injEq] at h; subst h
              obtain ⟨m, e1, e2⟩ := selT_run hc
              have : m = i.toNat := by omega
              subst this
              rw [hgi] at e2; injection e2 with e2; subst e2
              exact ⟨v, hp, hvr, hx _ (List.mem_of_getElem? hli)⟩
          · cases h
        · rename_i hagg
          split at h
          · rename_i cs hcs
            simp only [Tree.run, Option.some.injEq] at h; subst h
            obtain ⟨k1, k2, vs, k3, k4⟩ := selL_spec (D := D) hus hi.2.2 hcs
            refine ⟨.agg vs.toArray, ?_, ⟨vs, k3, rfl⟩, k2⟩
            unfold part
            rw [Sem.run_bind, pureSem_run hagg]
            simp only [Result.andThen_ok, if_true, Sem.run_bind, pureSem_run hsz, Sem.run_pure]
            congr 2
            apply Array.ext'
            have hvl : vs.length = sz := by rw [cellsRep_length k3, k1]
            have : vs = (us.drop (i.toNat * sz)).take sz := by
              apply List.ext_getElem?
              intro j
              by_cases hj : j < sz
              · rw [List.getElem?_take, if_pos hj, List.getElem?_drop]
                have e := List.getElem?_eq_getElem (l := vs) (i := j) (by omega)
                have := k4 j _ e
                rw [Nat.zero_add] at this
                rw [e, this]
              · rw [List.getElem?_eq_none (by omega), List.getElem?_eq_none (by simp; omega)]
            simp [this]
          · cases h
        · cases h
    · cases h
  · rename_i s hut
    obtain ⟨hb, h⟩ := Tree.run_ck h
    simp only [Tree.run, Option.some.injEq] at h; subst h
    have hi := inB_spec hb
    rw [show u = .string s from hu]
    refine ⟨_, ?_, rfl, trivial⟩
    have e : s[i.toNat]? = some (s[i.toNat]'hi.2.2) := by simp [hi.2.2]
    simp only [Instr.index, asIntOf, Sem.run_bind, Sem.run_pure, Result.andThen_ok, run_underlying hut, if_pos hi.1, e, byteAt]
    rfl
  · cases h
end

/-! ### All that turns nothing -/
def liftC (t : Tree Cell) : Tree AV := t.bind fun c => .ret (AV.c c)

theorem liftC_run {t : Tree Cell} {av : AV} (h : (liftC t).run = some av) : ∃ c, t.run = some c ∧ av = AV.c c := by
  obtain ⟨c, h1, h2⟩ := Tree.run_bind_some h
  simp only [Tree.run, Option.some.injEq] at h2
  exact ⟨c, h1, h2.symm⟩

def genC (P : Program) (E : Ef) (o : Oper) : Tree Cell := (silGen P E o).bind fun av => match av with
  | .p (.one c) => .ret c
  | _ => .fail

def silT (P : Program) (H : Hf) (E : Ef) (o : Oper) : Tree AV :=
  match o.op with
  | .move x => Tree.ofOpt (evalO E x)
  | .assign x => Tree.ofOpt (evalO E x)
  | .load t a => match evalO E a with
    | some (.p (.one c)) => (loadT P H t c).bind fun x => .ret (.p x)
    | _ => .fail
  | .fieldAddr s x f => match evalO E x, pureSem P (fieldOff s f) with
    | some (.p (.one (.p j off))), some k => .ret (AV.c (.p j (off + k)))
    | some (.p (.one (.e j base n sz idx off))), some k => .ret (AV.c (.e j base n sz idx (off + k)))
    | some (.p (.one (.er j sz idx off))), some k => .ret (AV.c (.er j sz idx (off + k)))
    | some (.p (.one (.q ts y))), some k => .ret (AV.c (dropQ k ts y))
    | _, _ => .fail
  | .field s x f => match evalO E x with
    | some (.p (.many l)) => match fieldA P s f l with
      | some q => .ret (.p q)
      | none => .fail
    | _ => silGen P E o
  | .nilCheck x => match evalO E x with
    | some (.p (.one c)) => bif isPtr c then .ret (AV.c c) else (match c with
      | .clo f caps => .ret (AV.c (.clo f caps))
      | _ => silGen P E o)
    | _ => silGen P E o
  | .index t x i => match evalO E x, evalO E i with
    | some (.p q), some (.p (.one c)) => match intOf c with
      | some n => (indexT P t q n (isConstO i)).bind fun y => .ret (.p y)
      | none => .fail
    | _, _ => .fail
  | .indexAddr t x i => match evalO E x, evalO E i with
    | some (.p (.one c)), some (.p (.one d)) => match intOf d with
      | some n => liftC (idxAddrT P H t c n (isConstO i))
      | none => .fail
    | _, _ => .fail
  | .pick c a b => match evalO E c, evalO E a, evalO E b with
    | some (.p (.one (.v (.bool b)))), some (.p (.one (.v (.bool x)))), some (.p (.one (.v (.bool y)))) => .ret (AV.b (bif b then x else y))
    | some (.p (.one (.v (.bool b)))), some x, some y => .ite b (.ret x) (.ret y)
    | _, _, _ => .fail
  | .binOp op t x y _ => match evalO E x, evalO E y with
    | some (.p (.many xs)), some (.p (.many ys)) => match cmpA P op t (.many xs) (.many ys) with
      | some b => .ret (AV.b b)
      | none => .fail
    | some (.p (.one a)), some (.p (.one b)) => arith P op t a b (nilCmp P op t a b (silGen P E o))
    | _, _ => silGen P E o
  | .unOp op t x => match evalO E x with
    | some (.p (.one a)) => unW P op t a (silGen P E o)
    | _ => silGen P E o
  | .convert src dst x => match evalO E x with
    | some (.p (.one a)) => convW P src dst a (silGen P E o)
    | _ => silGen P E o
  | .slice t x lo hi mx => match evalO E x, optI E lo, optI E hi, optI E mx with
    | some (.p (.one c)), some lo, some hi, some mx => liftC (sliceT P H t c lo hi mx (genC P E o))
    | _, _, _, _ => .fail
  | .call c => match c.callee, c.args.toList with
    | .builtin b, [x] => match evalO E x with
      | some (.p (.one a)) => lenT P H b c.argTypes.toList a (silGen P E o)
      | _ => silGen P E o
    | .builtin b, [x, y] => match evalO E x, evalO E y with
      | some (.p (.one a)), some (.p (.one c)) => mmW b a c (silGen P E o)
      | _, _ => silGen P E o
    | _, _ => silGen P E o
  | .build t parts => match evalParts E parts.toList with
    | some ps => match buildA P t ps with
      | some x => .ret (.p x)
      | none => .fail
    | none => .fail
  | .extract x i => match evalO E x with
    | some (.t l) => match nth l i with
      | some q => .ret (.p q)
      | none => .fail
    | _ => silGen P E o
  | .makeFunc (.func f) first captured => bif first.isEmpty then match capsOf E captured.toList with
      | some caps => .ret (AV.c (.clo f caps))
      | none => .fail
    else .fail
  | _ => silGen P E o

section
variable {P : Program} {F : Frag} {r : Loc} {D : Nat → Prop} {w : World} {H : Hf} {E : Ef}

theorem genC_run {o : Oper} {c : Cell} (h : (genC P E o).run = some c) {a : Act} (he : EnvR F r E a) (w : World) : ∃ v, (execOp a.eval o).run P w = .ok (.value v) w ∧ c.rep F r v ∧ c.inn D := by
  obtain ⟨av, h1, h2⟩ := Tree.run_bind_some h
  obtain ⟨v, g1, g2, g3⟩ := silGen_run (D := D) h1 he w
  split at h2
  · simp only [Tree.run, Option.some.injEq] at h2; subst h2
    exact ⟨v, g1, g2, g3⟩
  · cases h2

theorem intOf_rep {c : Cell} {n : Int} (h : intOf c = some n) {u : Value} (hu : c.rep F r u) : ∃ k, u = .int k n := by
  unfold intOf at h
  split at h
  · injection h with h; subst h; exact ⟨_, hu⟩
  · injection h with h; subst h; exact ⟨_, hu⟩
  · cases h

theorem Yl.back {s : Sem Value} {av : AV} (h : ∃ v, (do pure (Next.value (← s)) : Sem Next).run P w = .ok (.value v) w ∧ av.rep F r v ∧ av.inn D) : Yl F r D w av (s.run P w) := by
  obtain ⟨v, h1, h2, h3⟩ := h
  rw [Sem.run_bind] at h1
  generalize s.run P w = X at h1
  cases X with
  | halt x w1 => cases h1
  | ok z w1 =>
    simp only [Result.andThen_ok, Sem.run_pure, Result.ok.injEq, Next.value.injEq] at h1
    exact ⟨v, by rw [h1.1, h1.2], h2, h3⟩

theorem vrun {s : Sem Value} {v : Value} (h : s.run P w = .ok v w) : (do pure (Next.value (← s)) : Sem Next).run P w = .ok (.value v) w := by rw [Sem.run_bind, h]; rfl

theorem sil_run (hs : Sees F r D H w) {o : Oper} {av : AV} (h : (silT P H E o).run = some av) {a : Act} (he : EnvR F r E a) (hi : EnvIn D E) :
    ∃ v, (execOp a.eval o).run P w = .ok (.value v) w ∧ av.rep F r v ∧ av.inn D := by
  obtain ⟨dst, op, type, pos, after, guard⟩ := o
  have hgen : (silGen P E ⟨dst, op, type, pos, after, guard⟩).run = some av → ∃ v, (execOp a.eval ⟨dst, op, type, pos, after, guard⟩).run P w = .ok (.value v) w ∧ av.rep F r v ∧ av.inn D := fun hg => silGen_run hg he w
  unfold silT at h
  split at h
  · -- move
    rename_i x ho
    simp only at ho; subst ho
    rw [Tree.run_ofOpt] at h
    exact ⟨_, rfl, evalO_rep he h, evalO_inn hi h⟩
  · rename_i x ho
    simp only at ho; subst ho
    rw [Tree.run_ofOpt] at h
    exact ⟨_, rfl, evalO_rep he h, evalO_inn hi h⟩
  · -- load
    rename_i t x ho
    simp only at ho; subst ho
    split at h
    · rename_i c hx
      obtain ⟨q, hq, h⟩ := Tree.run_bind_some h
      simp only [Tree.run, Option.some.injEq] at h; subst h
      obtain ⟨v, g1, g2, g3⟩ := loadT_run hs hq (evalO_rep he hx)
      exact ⟨v, vrun g1, g2, g3⟩
    · cases h
  · -- fieldAddr
    rename_i s x f ho
    simp only at ho; subst ho
    split at h
    · rename_i j off k hx hk
      simp only [Tree.run, Option.some.injEq] at h; subst h
      have hu : a.eval x = _ := evalO_rep he hx
      refine ⟨_, vrun (by rw [hu]; exact fieldOff_run hk _ _ w), ?_, (evalO_inn hi hx : AV.inn D (AV.c (.p j off)))⟩
      simp only [AV.rep, Part.rep, Cell.rep, Nat.add_assoc]
    · rename_i j base n sz idx off k hx hk
      simp only [Tree.run, Option.some.injEq] at h; subst h
      obtain ⟨hu, hlt⟩ := (evalO_rep he hx : Cell.rep F r (.e j base n sz idx off) (a.eval x))
      refine ⟨_, vrun (by rw [hu]; exact fieldOff_run hk _ _ w), ⟨?_, hlt⟩, (evalO_inn hi hx : AV.inn D (AV.c (.e j base n sz idx off)))⟩
      simp only [Nat.add_assoc]
    · rename_i j sz idx off k hx hk
      simp only [Tree.run, Option.some.injEq] at h; subst h
      obtain ⟨hu, hlt⟩ := (evalO_rep he hx : Cell.rep F r (.er j sz idx off) (a.eval x))
      refine ⟨_, vrun (by rw [hu]; exact fieldOff_run hk _ _ w), ⟨?_, hlt⟩, (evalO_inn hi hx : AV.inn D (AV.c (.er j sz idx off)))⟩
      simp only [Nat.add_assoc]
    · rename_i ts y k hx hk
      simp only [Tree.run, Option.some.injEq] at h; subst h
      obtain ⟨b, o, hu, hr⟩ := (evalO_rep he hx : Cell.rep F r (.q ts y) (a.eval x))
      exact ⟨_, vrun (by rw [hu]; exact fieldOff_run hk _ _ w), dropQ_rep hr, dropQ_inn⟩
    · cases h
  · -- field
    rename_i s x f ho
    simp only at ho; subst ho
    split at h
    · rename_i l hx
      split at h
      · rename_i q hq
        simp only [Tree.run, Option.some.injEq] at h; subst h
        obtain ⟨v, g1, g2⟩ := fieldA_run (w := w) hq (evalO_rep he hx)
        exact ⟨v, vrun g1, g2, fieldA_inn (evalO_inn hi hx) hq⟩
      · cases h
    · exact hgen h
  · -- nilCheck
    rename_i x ho
    simp only at ho; subst ho
    split at h
    · rename_i c hx
      cases hp : isPtr c with
      | true =>
        rw [hp] at h
        simp only [cond_true, Tree.run, Option.some.injEq] at h; subst h
        have hr := evalO_rep he hx
        obtain ⟨b, hb⟩ := isPtr_rep hp hr
        refine ⟨_, ?_, hr, evalO_inn hi hx⟩
        simp only [execOp, hb, Sem.run_pure]
      | false =>
        rw [hp] at h
        simp only [cond_false] at h
        split at h
        · simp only [Tree.run, Option.some.injEq] at h; subst h
          have hr := evalO_rep he hx
          obtain ⟨vs, g1, g2⟩ := hr
          refine ⟨_, ?_, ⟨vs, g1, g2⟩, evalO_inn hi hx⟩
          simp only [execOp, g2, Sem.run_pure]
        · exact hgen h
    · exact hgen h
  · -- index
    rename_i t x i ho
    simp only at ho; subst ho
    split at h
    · rename_i q c hx hc
      split at h
      · rename_i n hn
        obtain ⟨y, hy, h⟩ := Tree.run_bind_some h
        simp only [Tree.run, Option.some.injEq] at h; subst h
        obtain ⟨k, hk⟩ := intOf_rep hn (evalO_rep he hc)
        obtain ⟨v, g1, g2, g3⟩ := indexT_run (D := D) (w := w) hy (evalO_rep he hx) (evalO_inn hi hx) k
        exact ⟨v, vrun (by rw [hk]; exact g1), g2, g3⟩
      · cases h
    · cases h
  · -- indexAddr
    rename_i t x i ho
    simp only at ho; subst ho
    split at h
    · rename_i c d hx hd
      split at h
      · rename_i n hn
        obtain ⟨y, hy, rfl⟩ := liftC_run h
        obtain ⟨k, hk⟩ := intOf_rep hn (evalO_rep he hd)
        obtain ⟨v, g1, g2, g3⟩ := idxAddrT_run hs hy (evalO_rep he hx) (evalO_inn hi hx) k
        exact ⟨v, vrun (by rw [hk]; exact g1), g2, g3⟩
      · cases h
    · cases h
  · -- pick
    rename_i c x y ho
    simp only at ho; subst ho
    split at h
    · rename_i b u v hc hx hy
      simp only [Tree.run, Option.some.injEq] at h; subst h
      have e1 : a.eval c = _ := evalO_rep he hc
      have e2 : a.eval x = _ := evalO_rep he hx
      have e3 : a.eval y = _ := evalO_rep he hy
      refine ⟨_, ?_, rfl, trivial⟩
      cases b <;> simp [execOp, e1, e2, e3, asBool]
    · rename_i b u v _ hc hx hy
      have e1 : a.eval c = _ := evalO_rep he hc
      simp only [Tree.run] at h
      cases b
      · simp only [cond_false, Option.some.injEq] at h; subst h
        exact ⟨_, by simp [execOp, e1, asBool], evalO_rep he hy, evalO_inn hi hy⟩
      · simp only [cond_true, Option.some.injEq] at h; subst h
        exact ⟨_, by simp [execOp, e1, asBool], evalO_rep he hx, evalO_inn hi hx⟩
    · cases h
  · -- binOp
    rename_i op' t x y ty ho
    simp only at ho; subst ho
    split at h
    · rename_i xs ys hx hy
      split at h
      · rename_i b hb
        simp only [Tree.run, Option.some.injEq] at h; subst h
        exact ⟨_, vrun (cmpA_run hb (evalO_rep he hx) (evalO_rep he hy) x y w), rfl, trivial⟩
      · cases h
    · rename_i u v hx hy
      exact Yl.next (arith_run h (evalO_rep he hx) (evalO_rep he hy) x y w fun h => nilCmp_run h (evalO_rep he hx) (evalO_rep he hy) x y w fun h => Yl.back (hgen h))
    · exact hgen h
  · -- unOp
    rename_i op' t x ho
    simp only at ho; subst ho
    split at h
    · rename_i u hx
      exact Yl.next (unW_run h (evalO_rep he hx) w fun h => Yl.back (hgen h))
    · exact hgen h
  · -- convert
    rename_i src dst' x ho
    simp only at ho; subst ho
    split at h
    · rename_i u hx
      exact Yl.next (convW_run h (evalO_rep he hx) w fun h => Yl.back (hgen h))
    · exact hgen h
  · -- slice
    rename_i t x lo hi' mx ho
    simp only at ho; subst ho
    split at h
    · rename_i c lo1 hi1 mx1 hx hlo hhi hmx
      obtain ⟨c', hc', rfl⟩ := liftC_run h
      obtain ⟨v, g1, g2, g3⟩ := sliceT_run hs hc' (evalO_rep he hx) (evalO_inn hi hx) (optI_val he hlo) (optI_val he hhi) (optI_val he hmx) fun hg => by
        obtain ⟨v, k1, k2⟩ := genC_run (D := D) hg he w
        obtain ⟨v', j1, j2, j3⟩ := Yl.back (av := AV.c c') ⟨v, k1, k2⟩
        exact ⟨v', j1, j2, j3⟩
      exact ⟨v, vrun g1, g2, g3⟩
    · cases h
  · -- builtins
    rename_i c ho
    simp only at ho; subst ho
    split at h
    · rename_i b x hcal hargs
      split at h
      · rename_i u hx
        have ha : c.args.map a.eval = #[a.eval x] := by
          apply Array.ext'
          rw [Array.toList_map, hargs]; rfl
        simp only [execOp, resolve, hcal, Sem.run_bind, Sem.run_pure, Result.andThen_ok, invoke, ha] at hgen ⊢
        exact lenT_run hs h (evalO_rep he hx) _ _ hgen
      · exact hgen h
    · rename_i b x y hcal hargs
      split at h
      · rename_i u v hx hy
        have ha : c.args.map a.eval = #[a.eval x, a.eval y] := by
          apply Array.ext'
          rw [Array.toList_map, hargs]; rfl
        simp only [execOp, resolve, hcal, Sem.run_bind, Sem.run_pure, Result.andThen_ok, invoke, ha] at hgen ⊢
        exact mmW_run h (evalO_rep he hx) (evalO_rep he hy) _ _ _ w hgen
      · exact hgen h
    · exact hgen h
  · -- build
    rename_i t parts ho
    simp only at ho; subst ho
    split at h
    · rename_i ps hps
      split at h
      · rename_i x hx
        simp only [Tree.run, Option.some.injEq] at h; subst h
        obtain ⟨v, g1, g2⟩ := buildA_run hx (evalParts_rep he hps) w
        have h1 : (parts.map fun (p : Nat × Operand) => (p.1, a.eval p.2)) = (parts.toList.map fun (p : Nat × Operand) => (p.1, a.eval p.2)).toArray := by
          apply Array.ext'; simp
        refine ⟨v, vrun ?_, g2, buildA_inn hx (evalParts_inn hi hps)⟩
        rw [← h1] at g1
        exact g1
      · cases h
    · cases h
  · -- extract
    rename_i x i ho
    simp only at ho; subst ho
    split at h
    · rename_i l hx
      split at h
      · rename_i q hq
        simp only [Tree.run, Option.some.injEq] at h; subst h
        rw [nth_eq] at hq
        obtain ⟨vs, g1, g2⟩ := (evalO_rep he hx : AV.rep F r (.t l) (a.eval x))
        obtain ⟨v, k1, k2⟩ := partsRep_get g1 i q hq
        exact ⟨v, by simp [execOp, g2, Instr.extract, k1], k2, (evalO_inn hi hx : AV.inn D (.t l)) q (List.mem_of_getElem? hq)⟩
      · cases h
    · exact hgen h
  · -- makeFunc
    rename_i f first captured ho
    simp only at ho; subst ho
    cases hf : first.isEmpty with
    | false => rw [hf] at h; cases h
    | true =>
      rw [hf] at h
      simp only [cond_true] at h
      split at h
      · rename_i caps hcaps
        simp only [Tree.run, Option.some.injEq] at h; subst h
        have h1 := capsOf_rep he hcaps
        have h3 : first = #[] := by simpa using hf
        refine ⟨_, ?_, ⟨_, h1, rfl⟩, capsOf_inn hi hcaps⟩
        have h4 : captured.map a.eval = (captured.toList.map a.eval).toArray := by apply Array.ext'; simp
        simp [execOp, Instr.makeFunc, h3, h4]
      · cases h
  · exact hgen h
end
end Go.Sz
