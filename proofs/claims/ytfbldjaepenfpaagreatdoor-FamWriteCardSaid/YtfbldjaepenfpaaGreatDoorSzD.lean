/-
  A symbolic machine for one call, with rows of any length: operations on plain values, parts of aggregates, words.
  A symbolic machine for one call, with rows of any length: equality, bounds, closures, composite values.
-/
import Derived.Test.YtfbldjaepenfpaaGreatDoorSzEQ
import Derived.DeepKeys
noncomputable section
namespace Go.Sz
open Go Go.RowKit Go.Sy
set_option linter.unusedVariables false
set_option linter.unusedSimpArgs false
set_option linter.constructorNameAsVariable false
/-! ### Lists, for the kernel -/
def nth {α : Type} : List α → Nat → Option α
  | [], _ => none
  | a :: _, 0 => some a
  | _ :: l, n + 1 => nth l n
theorem nth_eq {α : Type} : ∀ (l : List α) (n : Nat), nth l n = l[n]?
  | [], n => by cases n <;> rfl
  | a :: l, 0 => rfl
  | a :: l, n + 1 => by simp [nth, nth_eq l n]
def takeX {α : Type} : Nat → List α → Option (List α)
  | 0, _ => some []
  | _ + 1, [] => none
  | n + 1, c :: l => match takeX n l with
    | some r => some (c :: r)
    | none => none
theorem takeX_spec {α : Type} : ∀ (n : Nat) (l r : List α), takeX n l = some r → r = l.take n ∧ r.length = n
  | 0, l, r, h => by simp [takeX] at h; subst h; simp
  | n + 1, [], r, h => by cases h
  | n + 1, c :: l, r, h => by
    simp only [takeX] at h
    split at h
    · rename_i r' hr
      injection h with h; subst h
      obtain ⟨h1, h2⟩ := takeX_spec n l r' hr
      subst h1
      simp at h2 ⊢
      omega
    · cases h
def memN (k : Nat) (l : List Nat) : Bool :=
  List.rec (motive := fun _ => Bool) false (fun x _ ih => Bool.rec (motive := fun _ => Bool) ih true (Nat.beq x k)) l
theorem memN_nil {k : Nat} : memN k [] = false := rfl
theorem memN_cons {k x : Nat} {l : List Nat} : memN k (x :: l) = bif Nat.beq x k then true else memN k l := by
  show Bool.rec (motive := fun _ => Bool) (memN k l) true (Nat.beq x k) = _
  cases Nat.beq x k <;> rfl
theorem memN_iff {k : Nat} : ∀ {l : List Nat}, memN k l = true ↔ k ∈ l
  | [] => by simp [memN_nil]
  | x :: l => by
    simp only [memN_cons, List.mem_cons]
    cases hb : Nat.beq x k with
    | true => simp [Nat.eq_of_beq_eq_true hb]
    | false =>
      simp only [cond_false, memN_iff]
      constructor
      · exact .inr
      · rintro (rfl | h)
        · simp at hb
        · exact h
/-! ### Operands -/
abbrev Ef := Nat → Option AV
def evalO (E : Ef) : Operand → Option AV
  | .tmp t => E t
  | .const v => some (ofK v)
  | .global g => some (AV.c (.v (.pointer (some ⟨g, 0, none⟩))))
  | .func f => bif Nat.blt f 1000000 then some (AV.c (.clo f [])) else none
def EnvR (F : Frag) (r : Loc) (E : Ef) (a : Act) : Prop := ∀ k av, E k = some av → ∃ v, a.tmps[k]? = some v ∧ av.rep F r v
def EnvIn (D : Nat → Prop) (E : Ef) : Prop := ∀ k av, E k = some av → av.inn D
theorem evalO_rep {F : Frag} {r : Loc} {E : Ef} {a : Act} (h : EnvR F r E a) {x : Operand} {av : AV} (hx : evalO E x = some av) : av.rep F r (a.eval x) := by
  cases x with
  | tmp t =>
    obtain ⟨v, h1, h2⟩ := h t av hx
    simpa [Act.eval, h1] using h2
  | const v => simp only [evalO, Option.some.injEq] at hx; subst hx; exact ofK_rep F r v
  | global g => simp only [evalO, Option.some.injEq] at hx; subst hx; exact rfl
  | func f =>
    simp only [evalO] at hx
    cases hb : Nat.blt f 1000000 with
    | false => rw [hb] at hx; cases hx
    | true =>
      rw [hb] at hx
      simp only [cond_true, Option.some.injEq] at hx
      subst hx
      have hlt : f < 1000000 := Nat.le_of_ble_eq_true hb
      refine ⟨[], trivial, ?_⟩
      show Value.func (.func f) #[] #[] = _
      rw [cloV_fn (Nat.ble_eq_true_of_le (Nat.lt_of_lt_of_le hlt (by decide)))]
      have e : fnO f = f := Nat.mod_eq_of_lt hlt
      rw [e]; simp
theorem evalO_inn {D : Nat → Prop} {E : Ef} (h : EnvIn D E) {x : Operand} {av : AV} (hx : evalO E x = some av) : av.inn D := by
  cases x with
  | tmp t => exact h t av hx
  | const v => simp only [evalO, Option.some.injEq] at hx; subst hx; exact ofK_inn D v
  | global g => simp only [evalO, Option.some.injEq] at hx; subst hx; trivial
  | func f =>
    simp only [evalO] at hx
    cases hb : Nat.blt f 1000000 with
    | false => rw [hb] at hx; cases hx
    | true =>
      rw [hb] at hx
      simp only [cond_true, Option.some.injEq] at hx
      subst hx; intro c hc; cases hc
def valO (E : Ef) (x : Operand) : Value := match evalO E x with
  | some av => match av.toV with
    | some v => v
    | none => undef
  | none => undef
def isVal (E : Ef) (x : Operand) : Bool := match evalO E x with
  | some av => match av.toV with
    | some _ => true
    | none => false
  | none => false
theorem isVal_eval {F : Frag} {r : Loc} {E : Ef} {a : Act} (h : EnvR F r E a) {x : Operand} (hx : isVal E x = true) : a.eval x = valO E x := by
  unfold isVal at hx
  unfold valO
  split at hx
  · rename_i av hav
    split at hx
    · rename_i v hv
      have := AV.rep_toV hv (evalO_rep h hav)
      simp [this, hv]
    · cases hx
  · cases hx
def allVal (E : Ef) : List Operand → Bool
  | [] => true
  | x :: l => isVal E x && allVal E l
theorem allVal_eval {F : Frag} {r : Loc} {E : Ef} {a : Act} (h : EnvR F r E a) : ∀ {l : List Operand}, allVal E l = true → ∀ x ∈ l, a.eval x = valO E x
  | [], _, x, hx => by cases hx
  | y :: l, hl, x, hx => by
    simp only [allVal, Bool.and_eq_true] at hl
    rcases List.mem_cons.1 hx with rfl | hx
    · exact isVal_eval h hl.1
    · exact allVal_eval h hl.2 x hx
/-! ### What an operation that turns nothing yields -/
def Yl (F : Frag) (r : Loc) (D : Nat → Prop) (w : World) (av : AV) (res : Result Value) : Prop := ∃ v, res = .ok v w ∧ av.rep F r v ∧ av.inn D
theorem Yl.mk {F : Frag} {r : Loc} {D : Nat → Prop} {w : World} {av : AV} {v : Value} (h1 : av.rep F r v) (h2 : av.inn D) {res : Result Value} (h : res = .ok v w) : Yl F r D w av res := ⟨v, h, h1, h2⟩
theorem Yl.v {F : Frag} {r : Loc} {D : Nat → Prop} {w : World} {x : Value} {res : Result Value} (h : res = .ok x w) : Yl F r D w (AV.c (.v x)) res := ⟨x, h, rfl, trivial⟩
theorem Yl.w {F : Frag} {r : Loc} {D : Nat → Prop} {w : World} {k : IntKind} {x : BitVec k.bits} {res : Result Value} (h : res = .ok (.int k x.toNat) w) : Yl F r D w (AV.c (.w k x)) res := ⟨_, h, rfl, trivial⟩
theorem Yl.next {F : Frag} {r : Loc} {D : Nat → Prop} {w : World} {av : AV} {P : Program} {s : Sem Value} (h : Yl F r D w av (s.run P w)) :
    ∃ v, (do pure (Next.value (← s)) : Sem Next).run P w = .ok (.value v) w ∧ av.rep F r v ∧ av.inn D := by
  obtain ⟨v, h1, h2, h3⟩ := h
  exact ⟨v, by rw [Sem.run_bind, h1]; rfl, h2, h3⟩
def notSelect : Op → Bool
  | .select .. => false
  | _ => true
def silGen (P : Program) (E : Ef) (o : Oper) : Tree AV :=
  bif notSelect o.op && allVal E o.op.operands.toList then
    match pureSem P (execOp (valO E) o) with
    | some (.value v) => .ret (ofK v)
    | _ => .fail
  else .fail
theorem silGen_run {P : Program} {F : Frag} {r : Loc} {D : Nat → Prop} {E : Ef} {o : Oper} {av : AV} (h : (silGen P E o).run = some av) {a : Act} (he : EnvR F r E a) (w : World) :
    ∃ v, (execOp a.eval o).run P w = .ok (.value v) w ∧ av.rep F r v ∧ av.inn D := by
  unfold silGen at h
  cases hb : (notSelect o.op && allVal E o.op.operands.toList) with
  | false => rw [hb] at h; cases h
  | true =>
    rw [hb] at h
    simp only [Bool.and_eq_true] at hb
    simp only [cond_true] at h
    split at h
    · rename_i v hv
      simp only [Tree.run, Option.some.injEq] at h
      subst h
      refine ⟨v, ?_, ofK_rep F r v, ofK_inn D v⟩
      rw [execOp_congr o (fun cs b e => by rw [e] at hb; cases hb.1) (fun x hx => allVal_eval he hb.2 x (by simpa using hx)), pureSem_run hv]
    · cases h
/-! ### Parts of aggregates -/
def partA (P : Program) (t : TypeId) (l : List Cell) (off : Nat) : Option Part :=
  match pureSem P (isAgg t) with
  | some true => match pureSem P (sizeOf t) with
    | some n => match takeX n (l.drop off) with
      | some cs => some (.many cs)
      | none => none
    | none => none
  | some false => match nth l off with
    | some c => some (.one c)
    | none => none
  | none => none
theorem partA_run {P : Program} {F : Frag} {r : Loc} {w : World} {t : TypeId} {l : List Cell} {vs : List Value} (hl : cellsRep F r l vs) {off : Nat} {x : Part} (h : partA P t l off = some x) :
    ∃ v, (part t vs.toArray off).run P w = .ok v w ∧ x.rep F r v := by
  unfold partA at h
  split at h
  · rename_i hagg
    split at h
    · rename_i n hn
      split at h
      · rename_i cs hcs
        injection h with h; subst h
        obtain ⟨h1, h2⟩ := takeX_spec _ _ _ hcs
        refine ⟨.agg ((vs.drop off).take n).toArray, ?_, (vs.drop off).take n, ?_, rfl⟩
        · unfold part
          rw [Sem.run_bind, pureSem_run hagg]
          simp only [Result.andThen_ok, if_true, Sem.run_bind, pureSem_run hn]
          simp
        · rw [h1]; exact cellsRep_take n (cellsRep_drop off hl)
      · cases h
    · cases h
  · rename_i hagg
    split at h
    · rename_i c hc
      injection h with h; subst h
      rw [nth_eq] at hc
      obtain ⟨v, hv, hr⟩ := cellsRep_get hl off c hc
      refine ⟨v, ?_, hr⟩
      unfold part
      rw [Sem.run_bind, pureSem_run hagg]
      simp [hv]
    · cases h
  · cases h
theorem partA_inn {P : Program} {D : Nat → Prop} {t : TypeId} {l : List Cell} (hm : ∀ c ∈ l, c.inn D) {off : Nat} {x : Part} (h : partA P t l off = some x) : x.inn D := by
  unfold partA at h
  split at h
  · split at h
    · split at h
      · rename_i cs hcs
        injection h with h; subst h
        obtain ⟨h1, _⟩ := takeX_spec _ _ _ hcs
        intro c hc
        rw [h1] at hc
        exact hm c (List.mem_of_mem_drop (List.mem_of_mem_take hc))
      · cases h
    · cases h
  · split at h
    · rename_i c hc
      injection h with h; subst h
      rw [nth_eq] at hc
      exact hm c (List.mem_of_getElem? hc)
    · cases h
  · cases h
/-! ### Words -/
def wOf (k : IntKind) : Cell → Option (BitVec k.bits)
  | .w k' x => if h : k' = k then some (castW h x) else none
  | _ => none
theorem wOf_rep {F : Frag} {r : Loc} {k : IntKind} {c : Cell} {x : BitVec k.bits} (h : wOf k c = some x) {u : Value} (hu : c.rep F r u) : u = .int k x.toNat := by
  cases c <;> simp only [wOf] at h <;> try (cases h)
  rename_i k' y
  split at h
  · rename_i e
    subst e
    injection h with h; subst h; exact hu
  · cases h
def binW (op : BinOp) (k : IntKind) (x y : BitVec k.bits) : Tree AV := match op with
  | .add => .ret (AV.c (.w k (x + y)))
  | .sub => .ret (AV.c (.w k (x - y)))
  | .mul => .ret (AV.c (.w k (x * y)))
  | .and => .ret (AV.c (.w k (x &&& y)))
  | .or => .ret (AV.c (.w k (x ||| y)))
  | .xor => .ret (AV.c (.w k (x ^^^ y)))
  | .andNot => .ret (AV.c (.w k (x &&& ~~~y)))
  | .quo => .ite (y == 0#k.bits) .fail (.ret (AV.c (.w k (x / y))))
  | .rem => .ite (y == 0#k.bits) .fail (.ret (AV.c (.w k (x % y))))
  | .eql => .ret (AV.b (x == y))
  | .neq => .ret (AV.b (x != y))
  | .lss => .ret (AV.b (BitVec.ult x y))
  | .leq => .ret (AV.b (BitVec.ule x y))
  | .gtr => .ret (AV.b (BitVec.ult y x))
  | .geq => .ret (AV.b (BitVec.ule y x))
  | _ => .fail
def shW (op : BinOp) (k : IntKind) (x : BitVec k.bits) (c : Cell) : Tree AV := match op, c with
  | .shl, .w _ y => .ret (AV.c (.w k (x <<< y.toNat)))
  | .shr, .w _ y => .ret (AV.c (.w k (x >>> y.toNat)))
  | .shl, .v (.int _ n) => .ite (decide (n < 0)) .fail (.ret (AV.c (.w k (x <<< n.toNat))))
  | .shr, .v (.int _ n) => .ite (decide (n < 0)) .fail (.ret (AV.c (.w k (x >>> n.toNat))))
  | _, _ => .fail
def shI (op : BinOp) (k : IntKind) (x : Int) (c : Cell) : Tree AV := match op, c with
  | .shl, .w _ y => .ret (AV.c (.v (.int k (k.wrap (x * 2 ^ (min y.toNat k.bits))))))
  | .shr, .w _ y => .ret (AV.c (.v (.int k (x.fdiv (2 ^ (min y.toNat k.bits))))))
  | .shl, .v (.int _ n) => .ite (decide (n < 0)) .fail (.ret (AV.c (.v (.int k (k.wrap (x * 2 ^ (min n.toNat k.bits)))))))
  | .shr, .v (.int _ n) => .ite (decide (n < 0)) .fail (.ret (AV.c (.v (.int k (x.fdiv (2 ^ (min n.toNat k.bits)))))))
  | _, _ => .fail
def binI (op : BinOp) (k : IntKind) (x y : Int) : Tree AV := match op with
  | .add => .ret (AV.c (.v (.int k (k.wrap (x + y)))))
  | .sub => .ret (AV.c (.v (.int k (k.wrap (x - y)))))
  | .mul => .ret (AV.c (.v (.int k (k.wrap (x * y)))))
  | .quo => .ite (decide (y = 0)) .fail (.ret (AV.c (.v (.int k (k.wrap (x.tdiv y))))))
  | .rem => .ite (decide (y = 0)) .fail (.ret (AV.c (.v (.int k (x.tmod y)))))
  | .eql => .ret (AV.b (x == y))
  | .neq => .ret (AV.b (x != y))
  | .lss => .ret (AV.b (decide (x < y)))
  | .leq => .ret (AV.b (decide (x ≤ y)))
  | .gtr => .ret (AV.b (decide (y < x)))
  | .geq => .ret (AV.b (decide (y ≤ x)))
  | _ => .fail
def isBits : BinOp → Bool
  | .and => true
  | .or => true
  | .xor => true
  | .andNot => true
  | _ => false
def isShift : BinOp → Bool
  | .shl => true
  | .shr => true
  | _ => false
def strA (op : BinOp) (a b : Cell) (gen : Tree AV) : Tree AV := match op, a, b with
  | .add, .v (.string x), .v (.string y) => .ite (Nat.ble (x.size + y.size) 9223372036854775807) (.ret (AV.c (.v (.string (x ++ y))))) .fail
  | .eql, .v (.string x), .v (.string y) => .ret (AV.c (.v (.bool (eqBA x y))))
  | .neq, .v (.string x), .v (.string y) => .ret (AV.c (.v (.bool (!eqBA x y))))
  | _, _, _ => gen
def arith (P : Program) (op : BinOp) (t : TypeId) (a b : Cell) (gen : Tree AV) : Tree AV :=
  match P.underlying t with
  | some (.int k) =>
    bif isShift op then
      (bif k.signed then match a with
        | .v (.int k' n) => shI op k' n b
        | _ => gen
      else match wOf k a with
        | some x => shW op k x b
        | none => gen)
    else bif k.signed then
      (bif isBits op then gen else match a, b with
        | .v (.int k1 x), .v (.int k2 y) => if k1 = k2 then binI op k1 x y else .fail
        | _, _ => gen)
    else match wOf k a, wOf k b with
      | some x, some y => binW op k x y
      | _, _ => gen
  | some .string => strA op a b gen
  | _ => gen
def unW (P : Program) (op : UnOp) (t : TypeId) (a : Cell) (gen : Tree AV) : Tree AV :=
  match P.underlying t with
  | some (.int k) => bif k.signed then gen else match op, wOf k a with
    | .xor, some x => .ret (AV.c (.w k (~~~x)))
    | .neg, some x => .ret (AV.c (.w k (-x)))
    | _, _ => gen
  | _ => gen
def convW (P : Program) (src dst : TypeId) (a : Cell) (gen : Tree AV) : Tree AV :=
  match P.underlying src, P.underlying dst, a with
  | some _, some (.int k), .w k' x => bif k'.signed then .fail else bif k.signed then
      .ret (AV.c (.v (.int k (bif Nat.beq k.bits k'.bits then x.toInt else bif Nat.blt k'.bits k.bits then (x.toNat : Int) else k.wrap (x.toNat : Int)))))
    else .ret (AV.c (.w k (x.setWidth k.bits)))
  | some _, some (.int k), .v (.int _ n) => bif k.signed then gen else .ret (AV.c (.w k (BitVec.ofInt k.bits n)))
  | _, _, _ => gen
def mmW (b : Builtin) (a c : Cell) (gen : Tree AV) : Tree AV := match b, a with
  | .min, .w k x => match wOf k c with
    | some y => .ret (AV.c (.w k (bif BitVec.ult y x then y else x)))
    | none => gen
  | .max, .w k x => match wOf k c with
    | some y => .ret (AV.c (.w k (bif BitVec.ult x y then y else x)))
    | none => gen
  | .min, .v (.int k x) => match c with
    | .v (.int k' y) => if k = k' then .ret (AV.c (.v (.int k (bif decide (y < x) then y else x)))) else gen
    | _ => gen
  | .max, .v (.int k x) => match c with
    | .v (.int k' y) => if k = k' then .ret (AV.c (.v (.int k (bif decide (x < y) then y else x)))) else gen
    | _ => gen
  | _, _ => gen
section
variable {P : Program} {F : Frag} {r : Loc} {D : Nat → Prop} {av : AV}
theorem eqGuard_int (op : BinOp) (t : TypeId) (x y : Operand) (k k' : IntKind) (a b : Int) (w : World) : (eqGuard op t x y (.int k a) (.int k' b)).run P w = .ok () w := by
  cases op <;> simp [eqGuard]
theorem binW_run {op : BinOp} {k : IntKind} (hk : k.signed = false) {x y : BitVec k.bits} (h : (binW op k x y).run = some av) (t : TypeId) (w : World) :
    Yl F r D w av ((binOp op t (.int k x.toNat) (.int k y.toNat)).run P w) := by
  cases op <;> simp only [binW, Tree.run, Option.some.injEq] at h <;> try (cases h)
  case add => exact Yl.w (by simp [binOp, Op.intArith, w_add hk])
  case sub => exact Yl.w (by simp [binOp, Op.intArith, w_sub hk])
  case mul => exact Yl.w (by simp [binOp, Op.intArith, w_mul hk])
  case and => exact Yl.w (by simp only [binOp, ne_eq, not_true, if_false, Op.intBits, ofInt_toNat, wrap_toNat hk, Sem.run_pure])
  case or => exact Yl.w (by simp only [binOp, ne_eq, not_true, if_false, Op.intBits, ofInt_toNat, wrap_toNat hk, Sem.run_pure])
  case xor => exact Yl.w (by simp only [binOp, ne_eq, not_true, if_false, Op.intBits, ofInt_toNat, wrap_toNat hk, Sem.run_pure])
  case andNot => exact Yl.w (by simp only [binOp, ne_eq, not_true, if_false, Op.intBits, ofInt_toNat, wrap_toNat hk, Sem.run_pure])
  case eql => exact Yl.v (by simp only [binOp, ne_eq, not_true, if_false, Op.intCmp, w_eq, Sem.run_pure])
  case neq => exact Yl.v (by simp only [binOp, ne_eq, not_true, if_false, Op.intCmp, w_ne, Sem.run_pure])
  case lss => exact Yl.v (by simp only [binOp, ne_eq, not_true, if_false, Op.intCmp, w_lt, Sem.run_pure])
  case leq => exact Yl.v (by simp only [binOp, ne_eq, not_true, if_false, Op.intCmp, w_le, Sem.run_pure])
  case gtr => exact Yl.v (by simp only [binOp, ne_eq, not_true, if_false, Op.intCmp, gt_iff_lt, w_lt, Sem.run_pure])
  case geq => exact Yl.v (by simp only [binOp, ne_eq, not_true, if_false, Op.intCmp, ge_iff_le, w_le, Sem.run_pure])
  case quo =>
    cases hz : (y == 0#k.bits) with
    | true => rw [hz] at h; cases h
    | false =>
      rw [hz] at h
      simp only [cond_false, Option.some.injEq] at h; subst h
      have hy : ¬ ((y.toNat : Int) = 0) := fun e => by rw [w_zero] at e; rw [hz] at e; cases e
      exact Yl.w (by simp only [binOp, ne_eq, not_true, if_false, Op.intDiv, hy, w_div hk, Sem.run_pure])
  case rem =>
    cases hz : (y == 0#k.bits) with
    | true => rw [hz] at h; cases h
    | false =>
      rw [hz] at h
      simp only [cond_false, Option.some.injEq] at h; subst h
      have hy : ¬ ((y.toNat : Int) = 0) := fun e => by rw [w_zero] at e; rw [hz] at e; cases e
      exact Yl.w (by simp only [binOp, ne_eq, not_true, if_false, Op.intDiv, hy, w_mod, Sem.run_pure])
theorem binI_run {op : BinOp} {k : IntKind} {x y : Int} (h : (binI op k x y).run = some av) (t : TypeId) (w : World) :
    Yl F r D w av ((binOp op t (.int k x) (.int k y)).run P w) := by
  cases op <;> simp only [binI, Tree.run, Option.some.injEq] at h <;> try (cases h)
  case add => exact Yl.v (by simp [binOp, Op.intArith])
  case sub => exact Yl.v (by simp [binOp, Op.intArith])
  case mul => exact Yl.v (by simp [binOp, Op.intArith])
  case eql => exact Yl.v (by simp only [binOp, ne_eq, not_true, if_false, Op.intCmp, Sem.run_pure])
  case neq => exact Yl.v (by simp only [binOp, ne_eq, not_true, if_false, Op.intCmp, Sem.run_pure])
  case lss => exact Yl.v (by simp only [binOp, ne_eq, not_true, if_false, Op.intCmp, Sem.run_pure])
  case leq => exact Yl.v (by simp only [binOp, ne_eq, not_true, if_false, Op.intCmp, Sem.run_pure])
  case gtr => exact Yl.v (by simp only [binOp, ne_eq, not_true, if_false, Op.intCmp, gt_iff_lt, Sem.run_pure])
  case geq => exact Yl.v (by simp only [binOp, ne_eq, not_true, if_false, Op.intCmp, ge_iff_le, Sem.run_pure])
  all_goals
    by_cases h0 : y = 0
    · simp [h0] at h
    · simp only [h0, decide_false, cond_false, Option.some.injEq] at h; subst h
      exact Yl.v (by simp only [binOp, ne_eq, not_true, if_false, Op.intDiv, h0, Sem.run_pure])
theorem shW_run {op : BinOp} {k : IntKind} (hk : k.signed = false) {x : BitVec k.bits} {c : Cell} (h : (shW op k x c).run = some av) {u : Value} (hu : c.rep F r u) (t : TypeId) (w : World) :
    Yl F r D w av ((binOp op t (.int k x.toNat) u).run P w) := by
  unfold shW at h
  split at h
  · rename_i k' y
    simp only [Tree.run, Option.some.injEq] at h; subst h
    have h0 : ¬ ((y.toNat : Int) < 0) := by omega
    exact Yl.w (by rw [show u = .int k' y.toNat from hu]; simp only [binOp, Op.shift, h0, if_false, Int.toNat_natCast, w_shl hk, Sem.run_pure])
  · rename_i k' y
    simp only [Tree.run, Option.some.injEq] at h; subst h
    have h0 : ¬ ((y.toNat : Int) < 0) := by omega
    exact Yl.w (by rw [show u = .int k' y.toNat from hu]; simp only [binOp, Op.shift, h0, if_false, Int.toNat_natCast, w_shr, Sem.run_pure])
  · rename_i k' n
    simp only [Tree.run] at h
    by_cases h0 : n < 0
    · simp [h0] at h
    · simp only [h0, decide_false, cond_false, Option.some.injEq] at h; subst h
      exact Yl.w (by rw [show u = .int k' n from hu]; simp only [binOp, Op.shift, h0, if_false, w_shl hk, Sem.run_pure])
  · rename_i k' n
    simp only [Tree.run] at h
    by_cases h0 : n < 0
    · simp [h0] at h
    · simp only [h0, decide_false, cond_false, Option.some.injEq] at h; subst h
      exact Yl.w (by rw [show u = .int k' n from hu]; simp only [binOp, Op.shift, h0, if_false, w_shr, Sem.run_pure])
  · cases h
theorem shI_run {op : BinOp} {k : IntKind} {x : Int} {c : Cell} (h : (shI op k x c).run = some av) {u : Value} (hu : c.rep F r u) (t : TypeId) (w : World) :
    Yl F r D w av ((binOp op t (.int k x) u).run P w) := by
  unfold shI at h
  split at h
  · rename_i k' y
    simp only [Tree.run, Option.some.injEq] at h; subst h
    have h0 : ¬ ((y.toNat : Int) < 0) := by omega
    exact Yl.v (by rw [show u = .int k' y.toNat from hu]; simp only [binOp, Op.shift, h0, if_false, Int.toNat_natCast, Sem.run_pure])
  · rename_i k' y
    simp only [Tree.run, Option.some.injEq] at h; subst h
    have h0 : ¬ ((y.toNat : Int) < 0) := by omega
    exact Yl.v (by rw [show u = .int k' y.toNat from hu]; simp only [binOp, Op.shift, h0, if_false, Int.toNat_natCast, Sem.run_pure])
  · rename_i k' n
    simp only [Tree.run] at h
    by_cases h0 : n < 0
    · simp [h0] at h
    · simp only [h0, decide_false, cond_false, Option.some.injEq] at h; subst h
      exact Yl.v (by rw [show u = .int k' n from hu]; simp only [binOp, Op.shift, h0, if_false, Sem.run_pure])
  · rename_i k' n
    simp only [Tree.run] at h
    by_cases h0 : n < 0
    · simp [h0] at h
    · simp only [h0, decide_false, cond_false, Option.some.injEq] at h; subst h
      exact Yl.v (by rw [show u = .int k' n from hu]; simp only [binOp, Op.shift, h0, if_false, Sem.run_pure])
  · cases h
theorem shift_kind (op : BinOp) (hs : isShift op = true) (x y : Operand) (t : TypeId) (u v : Value) (w : World) : (eqGuard op t x y u v).run P w = .ok () w := by
  cases op <;> simp [isShift] at hs <;> simp [eqGuard]
theorem eqGuard_str (op : BinOp) (t : TypeId) (x y : Operand) (a b : ByteArray) (w : World) : (eqGuard op t x y (.string a) (.string b)).run P w = .ok () w := by
  cases op <;> simp [eqGuard]
theorem eqBA_toList (a b : ByteArray) : eqBA a b = (a.toList == b.toList) := by
  rw [ByteArray.toList_eq, ByteArray.toList_eq]
  cases h : eqBA a b with
  | true => rw [eqBA_eq h]; simp
  | false =>
    cases h2 : (a.data.toList == b.data.toList) with
    | false => rfl
    | true =>
      have e : a.data.toList = b.data.toList := by simpa using h2
      have e2 : eqBA a b = eqL eqU8 a.data.toList b.data.toList := rfl
      rw [e2, e, eqL_refl eqU8_refl] at h; cases h
theorem strA_run {op : BinOp} {t : TypeId} {a b : Cell} {gen : Tree AV} (h : (strA op a b gen).run = some av) {u v : Value} (hu : a.rep F r u) (hv : b.rep F r v) (x y : Operand) (w : World)
    (hg : gen.run = some av → Yl F r D w av ((do eqGuard op t x y u v; binOp op t u v : Sem Value).run P w)) :
    Yl F r D w av ((do eqGuard op t x y u v; binOp op t u v : Sem Value).run P w) := by
  unfold strA at h
  split at h
  · rename_i p q
    simp only [Tree.run] at h
    cases hb : Nat.ble (p.size + q.size) 9223372036854775807 with
    | false => rw [hb] at h; cases h
    | true =>
      rw [hb] at h
      simp only [cond_true, Option.some.injEq] at h; subst h
      have hle : p.size + q.size ≤ 9223372036854775807 := Nat.le_of_ble_eq_true hb
      have hn : ¬ (((p.size + q.size : Nat) : Int) > IntKind.i64.max) := by
        have : IntKind.i64.max = 9223372036854775807 := by rfl
        rw [this]; omega
      rw [show u = .string p from hu, show v = .string q from hv, Sem.run_bind, eqGuard_str]
      exact Yl.v (by simp only [binOp, Op.stringOp, hn, if_false, Result.andThen_ok, Sem.run_pure])
  · rename_i p q
    simp only [Tree.run, Option.some.injEq] at h; subst h
    rw [show u = .string p from hu, show v = .string q from hv, Sem.run_bind, eqGuard_str]
    exact Yl.v (by simp only [binOp, Op.stringOp, eqBA_toList, Result.andThen_ok, Sem.run_pure])
  · rename_i p q
    simp only [Tree.run, Option.some.injEq] at h; subst h
    rw [show u = .string p from hu, show v = .string q from hv, Sem.run_bind, eqGuard_str]
    exact Yl.v (by simp only [binOp, Op.stringOp, eqBA_toList, Result.andThen_ok, Sem.run_pure])
  · exact hg h
theorem arith_run {op : BinOp} {t : TypeId} {a b : Cell} {gen : Tree AV} (h : (arith P op t a b gen).run = some av) {u v : Value} (hu : a.rep F r u) (hv : b.rep F r v) (x y : Operand) (w : World)
    (hg : gen.run = some av → Yl F r D w av ((do eqGuard op t x y u v; binOp op t u v : Sem Value).run P w)) :
    Yl F r D w av ((do eqGuard op t x y u v; binOp op t u v : Sem Value).run P w) := by
  unfold arith at h
  split at h
  · rename_i k hk0
    cases hs : isShift op with
    | true =>
      rw [hs] at h
      simp only [cond_true] at h
      cases hk : k.signed with
      | true =>
        rw [hk] at h
        simp only [cond_true] at h
        split at h
        · rename_i k' n
          rw [Sem.run_bind, shift_kind op hs, show u = .int k' n from hu]
          exact shI_run h hv t w
        · exact hg h
      | false =>
        rw [hk] at h
        simp only [cond_false] at h
        split at h
        · rename_i z hz
          rw [Sem.run_bind, shift_kind op hs, wOf_rep hz hu]
          exact shW_run hk h hv t w
        · exact hg h
    | false =>
      rw [hs] at h
      simp only [cond_false] at h
      cases hk : k.signed with
      | true =>
        rw [hk] at h
        simp only [cond_true] at h
        cases hd : isBits op with
        | true => rw [hd] at h; exact hg h
        | false =>
          rw [hd] at h
          simp only [cond_false] at h
          split at h
          · rename_i k1 m k2 n
            split at h
            · rename_i e; subst e
              rw [show u = .int k1 m from hu, show v = .int k1 n from hv, Sem.run_bind, eqGuard_int]
              exact binI_run h t w
            · cases h
          · exact hg h
      | false =>
        rw [hk] at h
        simp only [cond_false] at h
        split at h
        · rename_i p q hp hq
          rw [wOf_rep hp hu, wOf_rep hq hv, Sem.run_bind, eqGuard_int]
          exact binW_run hk h t w
        · exact hg h
  · exact strA_run h hu hv x y w hg
  · exact hg h
theorem unW_run {op : UnOp} {t : TypeId} {a : Cell} {gen : Tree AV} (h : (unW P op t a gen).run = some av) {u : Value} (hu : a.rep F r u) (w : World)
    (hg : gen.run = some av → Yl F r D w av ((Op.unary op u).run P w)) : Yl F r D w av ((Op.unary op u).run P w) := by
  unfold unW at h
  split at h
  · rename_i k hk0
    cases hk : k.signed with
    | true => rw [hk] at h; exact hg h
    | false =>
      rw [hk] at h
      simp only [cond_false] at h
      split at h
      · rename_i x hx
        simp only [Tree.run, Option.some.injEq] at h; subst h
        rw [wOf_rep hx hu]
        exact Yl.w (by simp only [Op.unary, hk, Bool.false_eq_true, if_false, Op.intBits, w_not hk, ofInt_toNat, wrap_toNat hk, Sem.run_pure])
      · rename_i x hx
        simp only [Tree.run, Option.some.injEq] at h; subst h
        rw [wOf_rep hx hu]
        exact Yl.w (by simp only [Op.unary, Op.intArith, w_neg hk, Sem.run_pure])
      · exact hg h
  · exact hg h
theorem wrap_toInt {k k' : IntKind} (hk : k.signed = true) (hb : k.bits = k'.bits) (x : BitVec k'.bits) : k.wrap (x.toNat : Int) = x.toInt := by
  have hx : x.toNat < 2 ^ k'.bits := x.isLt
  have hpos : 0 < k'.bits := by cases k' <;> decide
  rw [BitVec.toInt_eq_toNat_cond]
  unfold IntKind.wrap
  simp only [hk, Bool.true_and, hb]
  have e1 : (2 : Int) ^ k'.bits = ((2 ^ k'.bits : Nat) : Int) := by simp
  have e2 : (2 : Int) ^ (k'.bits - 1) = ((2 ^ (k'.bits - 1) : Nat) : Int) := by simp
  have e3 : 2 ^ k'.bits = 2 * 2 ^ (k'.bits - 1) := by
    rw [← Nat.pow_succ']; congr 1; omega
  have e4 : (x.toNat : Int) % (2 : Int) ^ k'.bits = (x.toNat : Int) := by rw [e1]; exact Int.emod_eq_of_lt (by omega) (by omega)
  rw [e4, e2, e1, e3]
  generalize 2 ^ (k'.bits - 1) = m at *
  by_cases h : 2 * x.toNat < 2 * m
  · rw [if_pos h, if_neg (by simp; omega)]
  · rw [if_neg h, if_pos (by simp; omega)]
theorem wrap_wide {k k' : IntKind} (hk : k.signed = true) (hb : k'.bits < k.bits) (x : BitVec k'.bits) : k.wrap (x.toNat : Int) = (x.toNat : Int) := by
  have hx : x.toNat < 2 ^ k'.bits := x.isLt
  unfold IntKind.wrap
  simp only [hk, Bool.true_and]
  have e1 : (2 : Int) ^ k.bits = ((2 ^ k.bits : Nat) : Int) := by simp
  have e2 : (2 : Int) ^ (k.bits - 1) = ((2 ^ (k.bits - 1) : Nat) : Int) := by simp
  have e3 : 2 ^ k.bits = 2 * 2 ^ (k.bits - 1) := by
    rw [← Nat.pow_succ']; congr 1; omega
  have e5 : 2 ^ k'.bits ≤ 2 ^ (k.bits - 1) := Nat.pow_le_pow_right (by omega) (by omega)
  have e4 : (x.toNat : Int) % (2 : Int) ^ k.bits = (x.toNat : Int) := by rw [e1]; exact Int.emod_eq_of_lt (by omega) (by omega)
  rw [e4, e2]
  rw [if_neg (by simp; omega)]
theorem convW_run {src dst : TypeId} {a : Cell} {gen : Tree AV} (h : (convW P src dst a gen).run = some av) {u : Value} (hu : a.rep F r u) (w : World)
    (hg : gen.run = some av → Yl F r D w av ((convert src dst u).run P w)) : Yl F r D w av ((convert src dst u).run P w) := by
  unfold convW at h
  split at h
  · rename_i d k k' x hs hd
    cases hk' : k'.signed with
    | true => rw [hk'] at h; cases h
    | false =>
      rw [hk'] at h
      simp only [cond_false] at h
      rw [show u = .int k' x.toNat from hu]
      have hrun : (convert src dst (.int k' x.toNat)).run P w = .ok (.int k (k.wrap (x.toNat : Int))) w := by
        simp only [convert, Sem.run_bind, run_underlying hs, run_underlying hd, Result.andThen_ok, Conv.intToInt, Sem.run_pure]
      rw [hrun]
      cases hk : k.signed with
      | true =>
        rw [hk] at h
        simp only [cond_true, Tree.run, Option.some.injEq] at h; subst h
        refine Yl.v ?_
        congr 2
        cases h1 : Nat.beq k.bits k'.bits with
        | true => exact wrap_toInt hk (Nat.eq_of_beq_eq_true h1) x
        | false =>
          cases h2 : Nat.blt k'.bits k.bits with
          | true => exact wrap_wide hk (Nat.le_of_ble_eq_true h2) x
          | false => rfl
      | false =>
        rw [hk] at h
        simp only [cond_false, Tree.run, Option.some.injEq] at h; subst h
        refine Yl.w ?_
        rw [wrapNat hk, BitVec.toNat_setWidth]
  · rename_i d k k' n hs hd
    cases hk : k.signed with
    | true => rw [hk] at h; exact hg h
    | false =>
      rw [hk] at h
      simp only [cond_false, Tree.run, Option.some.injEq] at h; subst h
      rw [show u = .int k' n from hu]
      exact Yl.w (by simp only [convert, Sem.run_bind, run_underlying hs, run_underlying hd, Result.andThen_ok, Conv.intToInt, Sem.run_pure, wrap_ofInt hk])
  · exact hg h
def Yn (F : Frag) (r : Loc) (D : Nat → Prop) (w : World) (av : AV) (res : Result Next) : Prop := ∃ v, res = .ok (.value v) w ∧ av.rep F r v ∧ av.inn D
theorem Yn.mk {w : World} {v : Value} (h1 : av.rep F r v) (h2 : av.inn D) {res : Result Next} (h : res = .ok (.value v) w) : Yn F r D w av res := ⟨v, h, h1, h2⟩
theorem Yn.v {w : World} {x : Value} {res : Result Next} (h : res = .ok (.value x) w) : Yn F r D w (AV.c (.v x)) res := ⟨x, h, rfl, trivial⟩
theorem Yn.w {w : World} {k : IntKind} {x : BitVec k.bits} {res : Result Next} (h : res = .ok (.value (.int k x.toNat)) w) : Yn F r D w (AV.c (.w k x)) res := ⟨_, h, rfl, trivial⟩
theorem mmW_run {b : Builtin} {a c : Cell} {gen : Tree AV} (h : (mmW b a c gen).run = some av) {u v : Value} (hu : a.rep F r u) (hv : c.rep F r v) (ts : Array TypeId) (t : TypeId) (cs : Array Bool) (w : World)
    (hg : gen.run = some av → Yn F r D w av ((builtin b ts t cs #[u, v]).run P w)) : Yn F r D w av ((builtin b ts t cs #[u, v]).run P w) := by
  unfold mmW at h
  split at h
  · rename_i k x
    split at h
    · rename_i y hy
      simp only [Tree.run, Option.some.injEq] at h; subst h
      rw [show u = .int k x.toNat from hu, wOf_rep hy hv]
      refine Yn.w ?_
      simp only [builtin, Builtin.min_, List.foldlM, Builtin.min2, Sem.run_bind]
      have := w_lt y x
      cases hc : BitVec.ult y x with
      | true =>
        rw [hc] at this
        have h1 : (y.toNat : Int) < (x.toNat : Int) := by simpa using this
        simp [h1]
      | false =>
        rw [hc] at this
        have h1 : ¬ ((y.toNat : Int) < (x.toNat : Int)) := by simpa using this
        simp [h1]
    · exact hg h
  · rename_i k x
    split at h
    · rename_i y hy
      simp only [Tree.run, Option.some.injEq] at h; subst h
      rw [show u = .int k x.toNat from hu, wOf_rep hy hv]
      refine Yn.w ?_
      simp only [builtin, Builtin.max_, List.foldlM, Builtin.max2, Sem.run_bind]
      have := w_lt x y
      cases hc : BitVec.ult x y with
      | true =>
        rw [hc] at this
        have h1 : (x.toNat : Int) < (y.toNat : Int) := by simpa using this
        simp [h1]
      | false =>
        rw [hc] at this
        have h1 : ¬ ((x.toNat : Int) < (y.toNat : Int)) := by simpa using this
        simp [h1]
    · exact hg h
  · rename_i k x
    split at h
    · rename_i k' y
      split at h
      · rename_i e; subst e
        simp only [Tree.run, Option.some.injEq] at h; subst h
        rw [show u = .int k x from hu, show v = .int k y from hv]
        refine Yn.v ?_
        simp only [builtin, Builtin.min_, List.foldlM, Builtin.min2, Sem.run_bind]
        by_cases h1 : y < x <;> simp [h1]
      · exact hg h
    · exact hg h
  · rename_i k x
    split at h
    · rename_i k' y
      split at h
      · rename_i e; subst e
        simp only [Tree.run, Option.some.injEq] at h; subst h
        rw [show u = .int k x from hu, show v = .int k y from hv]
        refine Yn.v ?_
        simp only [builtin, Builtin.max_, List.foldlM, Builtin.max2, Sem.run_bind]
        by_cases h1 : x < y <;> simp [h1]
      · exact hg h
    · exact hg h
  · exact hg h
end
end Go.Sz
namespace Go.Sz
open Go Go.RowKit Go.Sy
set_option linter.unusedVariables false
set_option linter.unusedSimpArgs false
set_option linter.constructorNameAsVariable false
/-! ### Equality of aggregates -/
def eqFs (P : Program) (rec : TypeId → Part → Part → Option Bool) (xs ys : List Cell) : List Field → Option Bool
  | [] => some true
  | f :: fs => if f.name ≠ "_" then
      match partA P f.type xs f.offset, partA P f.type ys f.offset with
      | some a, some b => match rec f.type a b, eqFs P rec xs ys fs with
        | some r, some q => some (r && q)
        | _, _ => none
      | _, _ => none
    else eqFs P rec xs ys fs
def eqIt (P : Program) (rec : Part → Part → Option Bool) (e : TypeId) (n : Nat) (xs ys : List Cell) : List Nat → Option Bool
  | [] => some true
  | i :: is => match partA P e xs (i * n), partA P e ys (i * n) with
      | some a, some b => match rec a b, eqIt P rec e n xs ys is with
        | some r, some q => some (r && q)
        | _, _ => none
      | _, _ => none
def eqA (P : Program) : Nat → TypeId → Part → Part → Option Bool
  | 0, _, _, _ => none
  | d + 1, t, x, y => match P.underlying t, x, y with
    | some .bool, .one (.v (.bool a)), .one (.v (.bool b)) => some (a == b)
    | some (.int _), .one (.v (.int k a)), .one (.v (.int k' b)) => if k = k' then some (a == b) else none
    | some (.int _), .one (.w k a), .one c => match wOf k c with
      | some b => some (a == b)
      | none => none
    | some .string, .one (.v (.string a)), .one (.v (.string b)) => some (a == b)
    | some (.struct fs), .many xs, .many ys => if P.stoodInHeld t then none else eqFs P (eqA P d) xs ys fs.toList
    | some (.array n e), .many xs, .many ys => match P.info? e with
      | some _ => eqIt P (eqA P d e) e (P.cellsOf e) xs ys (List.range n)
      | none => none
    | _, _, _ => none
section
variable {P : Program} {F : Frag} {r : Loc} {D : Nat → Prop} {av : AV}
theorem eqA_run : ∀ (d : Nat) (t : TypeId) (x y : Part) (b : Bool) (w : World) (u v : Value), eqA P d t x y = some b → x.rep F r u → y.rep F r v →
    (Op.equalIn d t u v).run P w = .ok b w
  | 0, _, _, _, _, _, _, _, h, _, _ => by cases h
  | d + 1, t, x, y, b, w, u, v, h, hx, hy => by
    simp only [eqA] at h
    split at h
    · rename_i hu
      injection h with h; subst h
      rw [show u = _ from hx, show v = _ from hy]
      simp [Op.equalIn, run_underlying hu]
    · rename_i hu
      split at h
      · rename_i hk
        injection h with h; subst h
        rw [show u = _ from hx, show v = _ from hy]
        simp [Op.equalIn, run_underlying hu, hk]
      · cases h
    · rename_i k a c hu
      split at h
      · rename_i b' hb
        injection h with h; subst h
        rw [show u = _ from hx, wOf_rep hb hy]
        simp [Op.equalIn, run_underlying hu, w_eq]
      · cases h
    · rename_i hu
      injection h with h; subst h
      rw [show u = _ from hx, show v = _ from hy]
      simp [Op.equalIn, run_underlying hu]
    · rename_i fs xs ys hu
      split at h
      · cases h
      rename_i hst
      have hf : P.fieldsOf t = fs := by unfold Program.fieldsOf; rw [hu]
      have hu' : P.underlying t = some (.struct (P.fieldsOf t)) := by rw [hf]; exact hu
      obtain ⟨us, hus, rfl⟩ := hx
      obtain ⟨vs, hvs, rfl⟩ := hy
      rw [run_equalIn_struct w d t _ _ hu' (by simpa using hst), hf]
      generalize fs.toList = l at h
      clear hf hu hu' hst
      induction l generalizing b with
      | nil => simp [eqFs] at h; subst h; rfl
      | cons f fs ih =>
        simp only [eqFs] at h
        simp only [Op.eqFields]
        split at h
        · rename_i hn
          rw [if_pos hn]
          split at h
          · rename_i a c ha hc
            split at h
            · rename_i r1 q hr1 hq
              injection h with h; subst h
              obtain ⟨p1, e1, g1⟩ := partA_run (w := w) hus ha
              obtain ⟨p2, e2, g2⟩ := partA_run (w := w) hvs hc
              simp only [Sem.run_bind, e1, e2, Result.andThen_ok, eqA_run d _ _ _ _ w _ _ hr1 g1 g2, Sem.run_ite]
              cases r1
              · simp
              · simp [ih q hq]
            · cases h
          · cases h
        · rename_i hn
          rw [if_neg hn]
          exact ih b h
    · rename_i n e xs ys hu
      split at h
      · rename_i i hi
        obtain ⟨us, hus, rfl⟩ := hx
        obtain ⟨vs, hvs, rfl⟩ := hy
        rw [run_equalIn_array w d _ _ hu hi]
        generalize List.range n = l at h
        induction l generalizing b with
        | nil => simp [eqIt] at h; subst h; rfl
        | cons i is ih =>
          simp only [eqIt] at h
          simp only [Op.eqItems]
          split at h
          · rename_i a c ha hc
            split at h
            · rename_i r1 q hr1 hq
              injection h with h; subst h
              obtain ⟨p1, e1, g1⟩ := partA_run (w := w) hus ha
              obtain ⟨p2, e2, g2⟩ := partA_run (w := w) hvs hc
              simp only [Sem.run_bind, e1, e2, Result.andThen_ok, eqA_run d _ _ _ _ w _ _ hr1 g1 g2, Sem.run_ite]
              cases r1
              · simp
              · simp [ih q hq]
            · cases h
          · cases h
      · cases h
    · cases h
def cmpA (P : Program) (op : BinOp) (t : TypeId) (x y : Part) : Option Bool :=
  bif P.eqGuardType P.depth t then none else
  match op with
  | .eql => eqA P 10000 t x y
  | .neq => match eqA P 10000 t x y with
    | some b => some (!b)
    | none => none
  | _ => none
theorem cmpA_run {op : BinOp} {t : TypeId} {xs ys : List Cell} {b : Bool} (h : cmpA P op t (.many xs) (.many ys) = some b) {u v : Value} (hu : (Part.many xs).rep F r u) (hv : (Part.many ys).rep F r v) (x y : Operand) (w : World) :
    (do eqGuard op t x y u v; binOp op t u v : Sem Value).run P w = .ok (.bool b) w := by
  unfold cmpA at h
  cases hg : P.eqGuardType P.depth t with
  | true => rw [hg] at h; cases h
  | false =>
    rw [hg] at h
    simp only [cond_false] at h
    have hu0 := hu
    have hv0 := hv
    obtain ⟨us, _, rfl⟩ := hu
    obtain ⟨vs, _, rfl⟩ := hv
    rw [Sem.run_bind, run_eqGuard_agg w op t x y _ _ hg]
    simp only [Result.andThen_ok]
    split at h
    · rw [run_eql_struct w t, eqA_run 10000 t _ _ b w _ _ h hu0 hv0]; rfl
    · split at h
      · rename_i c hc
        injection h with h; subst h
        rw [run_neq_struct w t, eqA_run 10000 t _ _ c w _ _ hc hu0 hv0]; rfl
      · cases h
    · cases h
/-! ### A pointer held against nil -/
def isPtr : Cell → Bool
  | .p _ _ => true
  | .q _ _ => true
  | .e _ _ _ _ _ _ => true
  | .er _ _ _ _ => true
  | _ => false
theorem isPtr_rep {c : Cell} (h : isPtr c = true) {u : Value} (hu : c.rep F r u) : ∃ a, u = .pointer (some a) := by
  cases c <;> simp [isPtr] at h
  · exact ⟨_, hu⟩
  · obtain ⟨b, o, h1, _⟩ := hu; exact ⟨_, h1⟩
  · exact ⟨_, hu.1⟩
  · exact ⟨_, hu.1⟩
def nilCmp (P : Program) (op : BinOp) (t : TypeId) (a b : Cell) (gen : Tree AV) : Tree AV :=
  match P.underlying t, op, b with
  | some (.pointer _), .eql, .v (.pointer none) => bif isPtr a then .ret (AV.b false) else gen
  | some (.pointer _), .neq, .v (.pointer none) => bif isPtr a then .ret (AV.b true) else gen
  | some (.slice _), .eql, .v (.slice none 0 0) => (match a with
    | .d _ l => .ck (Nat.blt 0 l.length) (.ret (AV.b false))
    | _ => gen)
  | some (.slice _), .neq, .v (.slice none 0 0) => (match a with
    | .d _ l => .ck (Nat.blt 0 l.length) (.ret (AV.b true))
    | _ => gen)
  | _, _, _ => gen
theorem d_some {ts : Tys} {l : List ts.den} {u : Value} (hu : (Cell.d ts l).rep F r u) (hl : Nat.blt 0 l.length = true) : ∃ a n c, u = .slice (some a) n c := by
  simp only [Cell.rep, RepT] at hu
  obtain ⟨a, cap, rfl, _, _, h⟩ := hu
  have hl' : 0 < l.length := Nat.le_of_ble_eq_true hl
  obtain ⟨b, o, rfl, _⟩ := h (List.length_pos_iff.1 hl')
  exact ⟨_, _, _, rfl⟩
theorem run_slice_nil (w : World) {t e : TypeId} (a : Addr) (n c : Nat) (h : P.underlying t = some (.slice e)) :
    (binOp .eql t (.slice (some a) n c) (.slice none 0 0)).run P w = .ok (.bool false) w ∧ (binOp .neq t (.slice (some a) n c) (.slice none 0 0)).run P w = .ok (.bool true) w := by
  have h1 : ∀ d : Nat, (Op.equalIn (d + 1) t (.slice (some a) n c) (.slice none 0 0)).run P w = .ok false w := fun d => by
    simp [Op.equalIn, run_underlying h]
  constructor <;> simp only [binOp] <;> simp [Op.equal, Op.maxDepth, h1 9999]
theorem nilCmp_run {op : BinOp} {t : TypeId} {a b : Cell} {gen : Tree AV} (h : (nilCmp P op t a b gen).run = some av) {u v : Value} (hu : a.rep F r u) (hv : b.rep F r v) (x y : Operand) (w : World)
    (hg : gen.run = some av → Yl F r D w av ((do eqGuard op t x y u v; binOp op t u v : Sem Value).run P w)) :
    Yl F r D w av ((do eqGuard op t x y u v; binOp op t u v : Sem Value).run P w) := by
  unfold nilCmp at h
  split at h
  · rename_i te ht
    cases hp : isPtr a with
    | false => rw [hp] at h; exact hg h
    | true =>
      rw [hp] at h
      simp only [cond_true, Tree.run, Option.some.injEq] at h; subst h
      obtain ⟨a', rfl⟩ := isPtr_rep hp hu
      rw [show v = .pointer none from hv]
      have ht' : P.underlying t = some (.pointer (P.pointee t)) := by rw [ht]; simp [Program.pointee, ht]
      refine Yl.v ?_
      rw [Sem.run_bind, show (eqGuard .eql t x y (.pointer (some a')) (.pointer none)).run P w = .ok () w from by simp [eqGuard]]
      simp only [Result.andThen_ok]
      rw [run_eql_pointer_nil w t (some a') ht']; rfl
  · rename_i te ht
    cases hp : isPtr a with
    | false => rw [hp] at h; exact hg h
    | true =>
      rw [hp] at h
      simp only [cond_true, Tree.run, Option.some.injEq] at h; subst h
      obtain ⟨a', rfl⟩ := isPtr_rep hp hu
      rw [show v = .pointer none from hv]
      have ht' : P.underlying t = some (.pointer (P.pointee t)) := by rw [ht]; simp [Program.pointee, ht]
      refine Yl.v ?_
      rw [Sem.run_bind, show (eqGuard .neq t x y (.pointer (some a')) (.pointer none)).run P w = .ok () w from by simp [eqGuard]]
      simp only [Result.andThen_ok]
      rw [run_neq_pointer_nil w t (some a') ht']; rfl
  · rename_i te ht
    split at h
    · obtain ⟨hl, h⟩ := Tree.run_ck h
      simp only [Tree.run, Option.some.injEq] at h; subst h
      obtain ⟨a', n, c, rfl⟩ := d_some hu hl
      rw [show v = .slice none 0 0 from hv]
      refine Yl.v ?_
      rw [Sem.run_bind, show (eqGuard .eql t x y (.slice (some a') n c) (.slice none 0 0)).run P w = .ok () w from by simp [eqGuard]]
      simp only [Result.andThen_ok]
      exact (run_slice_nil w a' n c ht).1
    · exact hg h
  · rename_i te ht
    split at h
    · obtain ⟨hl, h⟩ := Tree.run_ck h
      simp only [Tree.run, Option.some.injEq] at h; subst h
      obtain ⟨a', n, c, rfl⟩ := d_some hu hl
      rw [show v = .slice none 0 0 from hv]
      refine Yl.v ?_
      rw [Sem.run_bind, show (eqGuard .neq t x y (.slice (some a') n c) (.slice none 0 0)).run P w = .ok () w from by simp [eqGuard]]
      simp only [Result.andThen_ok]
      exact (run_slice_nil w a' n c ht).2
    · exact hg h
  · exact hg h
end
/-! ### Fields -/
def fieldOff (s : TypeId) (field : Nat) : Sem Nat := do
  let .struct fields ← underlying s | stuck "f"
  let some f := fields[field]? | stuck "f"
  if (← sizeOf f.type) = 0 then stuck "f" else pure f.offset
theorem fieldOff_run {P : Program} {s : TypeId} {f k : Nat} (h : pureSem P (fieldOff s f) = some k) (b o : Nat) (w : World) :
    (Instr.fieldAt s (.pointer (some ⟨b, o, none⟩)) f).run P w = .ok (.pointer (some ⟨b, o + k, none⟩)) w := by
  have h1 := pureSem_run h w
  unfold fieldOff at h1
  unfold Instr.fieldAt
  simp only [Sem.run_bind] at h1 ⊢
  generalize hu : (underlying s).run P w = ru at h1 ⊢
  cases ru with
  | halt x w1 => simp [Result.andThen] at h1
  | ok d w1 =>
    simp only [Result.andThen_ok] at h1 ⊢
    cases d <;> simp only [run_stuck] at h1 <;> try (cases h1)
    rename_i fields
    simp only [] at h1 ⊢
    split at h1
    · rename_i fl hfl
      simp only [hfl, Instr.sureAddr, Sem.run_bind, Sem.run_pure, Result.andThen_ok, fieldPlace] at h1 ⊢
      generalize hs : (sizeOf fl.type).run P w1 = rs at h1 ⊢
      cases rs with
      | halt x w2 => simp [Result.andThen] at h1
      | ok n w2 =>
        simp only [Result.andThen_ok] at h1 ⊢
        split at h1
        · cases h1
        · rename_i hn
          simp only [Sem.run_pure] at h1
          injection h1 with h1 h2
          subst h1 h2
          rw [if_neg hn]
          simp [Addr.add_mid]
    · cases h1
def fieldA (P : Program) (s : TypeId) (field : Nat) (l : List Cell) : Option Part :=
  match P.underlying s with
  | some (.struct fields) => match fields[field]? with
    | some f => partA P f.type l f.offset
    | none => none
  | _ => none
section
variable {P : Program} {F : Frag} {r : Loc} {D : Nat → Prop} {w : World}
theorem fieldA_run {s : TypeId} {f : Nat} {l : List Cell} {x : Part} (h : fieldA P s f l = some x) {u : Value} (hu : (Part.many l).rep F r u) :
    ∃ v, (Instr.field s u f).run P w = .ok v w ∧ x.rep F r v := by
  obtain ⟨us, hus, rfl⟩ := hu
  unfold fieldA at h
  split at h
  · rename_i fields hs
    split at h
    · rename_i fl hfl
      obtain ⟨v, h1, h2⟩ := partA_run (w := w) hus h
      exact ⟨v, by simp [Instr.field, run_underlying hs, hfl, asAgg, h1], h2⟩
    · cases h
  · cases h
theorem fieldA_inn {s : TypeId} {f : Nat} {l : List Cell} (hm : ∀ c ∈ l, c.inn D) {x : Part} (h : fieldA P s f l = some x) : x.inn D := by
  unfold fieldA at h
  split at h
  · split at h
    · exact partA_inn hm h
    · cases h
  · cases h
end
/-! ### Bounds of a slice -/
def boundA : Option Int → Nat → Nat → Tree Nat
  | some v, y, _ => .ck (decide (0 ≤ v) && decide (v ≤ (y : Int))) (.ret v.toNat)
  | none, _, d => .ret d
def boundsA (len cap : Nat) (lo hi mx : Option Int) : Tree (Nat × Nat × Nat) :=
  (boundA mx cap cap).bind fun m => (match hi, mx with
    | none, some _ => Tree.fail
    | _, _ => boundA hi m len).bind fun h => (boundA lo h 0).bind fun l => .ret (l, h, m)
def optI (E : Ef) : Option Operand → Option (Option Int)
  | none => some none
  | some x => match evalO E x with
    | some (.p (.one (.v (.int _ n)))) => some (some n)
    | some (.p (.one (.w _ n))) => some (some n.toNat)
    | _ => none
section
variable {P : Program} {F : Frag} {r : Loc} {D : Nat → Prop} {w : World}
theorem boundA_run {v : Int} {y y' d n : Nat} (h : (boundA (some v) y d).run = some n) (hy : y ≤ y') (k : IntKind) (c : BoundsCode) (w : World) : (Instr.sliceBound (.int k v) y' c).run P w = .ok n w ∧ n ≤ y ∧ v = n := by
  simp only [boundA] at h
  obtain ⟨hb, h⟩ := Tree.run_ck h
  simp only [Tree.run, Option.some.injEq] at h; subst h
  simp only [Bool.and_eq_true, decide_eq_true_eq] at hb
  have : 0 ≤ v ∧ v ≤ (y' : Int) := by omega
  refine ⟨by simp [Instr.sliceBound, asIntOf, this], by omega, by omega⟩
def valI : Option Int → Option Value → Prop
  | none, none => True
  | some n, some (.int _ m) => n = m
  | _, _ => False
theorem valI_none {o : Option Value} (h : valI none o) : o = none := by
  cases o with
  | none => rfl
  | some v => cases v <;> exact h.elim
theorem valI_some {n : Int} {o : Option Value} (h : valI (some n) o) : ∃ k, o = some (.int k n) := by
  cases o with
  | none => exact h.elim
  | some v =>
    cases v <;> first
      | exact ⟨_, by rw [show n = _ from h]⟩
      | exact h.elim
theorem boundsA_run {len cap cap' : Nat} {lo hi mx : Option Int} {q : Nat × Nat × Nat} (h : (boundsA len cap lo hi mx).run = some q) (hc : cap ≤ cap') (hlen : len ≤ cap) {lo' hi' mx' : Option Value} (hlo : valI lo lo') (hhi : valI hi hi') (hmx : valI mx mx') (b : Bool) (w : World) :
    (Instr.sliceBounds b len cap' lo' hi' mx').run P w = .ok (q.1, q.2.1, if mx.isSome then q.2.2 else cap') w ∧ q.1 ≤ q.2.1 ∧ q.2.1 ≤ q.2.2 ∧ q.2.2 ≤ cap ∧ (mx = none → q.2.2 = cap) := by
  obtain ⟨m, hm, h⟩ := Tree.run_bind_some h
  obtain ⟨x, hx, h⟩ := Tree.run_bind_some h
  obtain ⟨l, hl, h⟩ := Tree.run_bind_some h
  simp only [Tree.run, Option.some.injEq] at h; subst h
  unfold Instr.sliceBounds
  cases mx with
  | none =>
    obtain rfl := valI_none hmx
    simp only [boundA, Tree.run, Option.some.injEq] at hm; subst hm
    cases hi with
    | none =>
      obtain rfl := valI_none hhi
      simp only [boundA, Tree.run, Option.some.injEq] at hx; subst hx
      cases lo with
      | none =>
        obtain rfl := valI_none hlo
        simp only [boundA, Tree.run, Option.some.injEq] at hl; subst hl
        refine ⟨by simp, by simp, hlen, by simp, fun _ => rfl⟩
      | some v =>
        obtain ⟨k, rfl⟩ := valI_some hlo
        obtain ⟨h1, h2, _⟩ := boundA_run (P := P) hl (Nat.le_refl _) k .sliceB w
        refine ⟨by simp [h1], by simpa using h2, hlen, by simp, fun _ => rfl⟩
    | some u =>
      obtain ⟨k', rfl⟩ := valI_some hhi
      obtain ⟨g1, g2, _⟩ := boundA_run (P := P) hx hc k' (if b = true then .sliceAcap else .sliceAlen) w
      cases lo with
      | none =>
        obtain rfl := valI_none hlo
        simp only [boundA, Tree.run, Option.some.injEq] at hl; subst hl
        refine ⟨by simp [g1], by simp, g2, by simp, fun _ => rfl⟩
      | some v =>
        obtain ⟨k, rfl⟩ := valI_some hlo
        obtain ⟨h1, h2, _⟩ := boundA_run (P := P) hl (Nat.le_refl _) k .sliceB w
        refine ⟨by simp [g1, h1], by simpa using h2, g2, by simp, fun _ => rfl⟩
  | some z =>
    obtain ⟨k2, rfl⟩ := valI_some hmx
    cases hi with
    | none => cases hx
    | some u =>
      obtain ⟨k', rfl⟩ := valI_some hhi
      obtain ⟨f1, f2, _⟩ := boundA_run (P := P) hm hc k2 (if b = true then .slice3Acap else .slice3Alen) w
      obtain ⟨g1, g2, _⟩ := boundA_run (P := P) hx (Nat.le_refl _) k' .slice3B w
      cases lo with
      | none =>
        obtain rfl := valI_none hlo
        simp only [boundA, Tree.run, Option.some.injEq] at hl; subst hl
        refine ⟨by simp [f1, g1], by simp, g2, f2, fun e => by cases e⟩
      | some v =>
        obtain ⟨k, rfl⟩ := valI_some hlo
        obtain ⟨h1, h2, _⟩ := boundA_run (P := P) hl (Nat.le_refl _) k .slice3C w
        refine ⟨by simp [f1, g1, h1], by simpa using h2, g2, f2, fun e => by cases e⟩
theorem optI_val {E : Ef} {a : Act} (he : EnvR F r E a) {o : Option Operand} {v : Option Int} (h : optI E o = some v) : valI v (o.map a.eval) := by
  cases o with
  | none => simp [optI] at h; subst h; trivial
  | some x =>
    simp only [optI] at h
    split at h
    · rename_i k n hx
      injection h with h; subst h
      have := evalO_rep he hx
      simp only [Option.map_some]
      rw [show a.eval x = .int k n from this]
      exact rfl
    · rename_i k n hx
      injection h with h; subst h
      have := evalO_rep he hx
      simp only [Option.map_some]
      rw [show a.eval x = .int k n.toNat from this]
      exact rfl
    · cases h
end
/-! ### Closures -/
def capOf : Cell → Option Cap
  | .v x => some (.v x)
  | .w k x => some (.w k x)
  | .p j o => some (.p j o)
  | .h j => some (.h j)
  | .d ts l => some (.d ts l)
  | .q ts x => some (.q ts x)
  | .y i pv => some (.y i pv)
  | _ => none
def capsOf (E : Ef) : List Operand → Option (List Cap)
  | [] => some []
  | x :: l => match evalO E x with
    | some (.p (.one c)) => match capOf c, capsOf E l with
      | some k, some ks => some (k :: ks)
      | _, _ => none
    | _ => none
section
variable {P : Program} {F : Frag} {r : Loc} {D : Nat → Prop} {w : World}
theorem capOf_rep {c : Cell} {k : Cap} (h : capOf c = some k) {u : Value} (hu : c.rep F r u) : k.rep F r u := by
  cases c <;> simp only [capOf, Option.some.injEq] at h <;> try (cases h; done)
  all_goals (subst h; exact hu)
theorem capOf_inn {c : Cell} {k : Cap} (h : capOf c = some k) (hc : c.inn D) : k.inn D := by
  cases c <;> simp only [capOf, Option.some.injEq] at h <;> try (cases h; done)
  all_goals (subst h; exact hc)
theorem capsOf_rep {E : Ef} {a : Act} (he : EnvR F r E a) : ∀ {l : List Operand} {caps : List Cap}, capsOf E l = some caps → capsRep F r caps (l.map a.eval)
  | [], caps, h => by simp [capsOf] at h; subst h; trivial
  | x :: l, caps, h => by
    simp only [capsOf] at h
    split at h
    · rename_i c hc
      split at h
      · rename_i k ks hk hks
        injection h with h; subst h
        exact ⟨capOf_rep hk (evalO_rep he hc), capsOf_rep he hks⟩
      · cases h
    · cases h
theorem capsOf_inn {E : Ef} (he : EnvIn D E) : ∀ {l : List Operand} {caps : List Cap}, capsOf E l = some caps → ∀ c ∈ caps, c.inn D
  | [], caps, h => by simp [capsOf] at h; subst h; intro c hc; cases hc
  | x :: l, caps, h => by
    simp only [capsOf] at h
    split at h
    · rename_i c hc
      split at h
      · rename_i k ks hk hks
        injection h with h; subst h
        intro y hy
        rcases List.mem_cons.1 hy with rfl | hy
        · exact capOf_inn hk (evalO_inn he hc)
        · exact capsOf_inn he hks y hy
      · cases h
    · cases h
end
/-! ### Putting cells -/
def putR (l : List Cell) (off : Nat) (cs : List Cell) : List Cell := l.take off ++ (cs ++ l.drop (off + cs.length))
theorem putR_length {l : List Cell} {off : Nat} {cs : List Cell} (h : off + cs.length ≤ l.length) : (putR l off cs).length = l.length := by
  simp [putR]; omega
theorem putR_mem {l : List Cell} {off : Nat} {cs : List Cell} {c : Cell} (h : c ∈ putR l off cs) : c ∈ l ∨ c ∈ cs := by
  unfold putR at h
  rw [List.mem_append, List.mem_append] at h
  rcases h with h | h | h
  · exact .inl (List.mem_of_mem_take h)
  · exact .inr h
  · exact .inl (List.mem_of_mem_drop h)
def Part.cells : Part → List Cell
  | .one c => [c]
  | .many l => l
def Cell.ok : Cell → Bool
  | .v x => x.oneCell'
  | .y _ pv => pv.one
  | _ => true
def okAll : List Cell → Bool
  | [] => true
  | c :: l => c.ok && okAll l
section
variable {P : Program} {F : Frag} {r : Loc} {D : Nat → Prop} {w : World}
theorem Cell.ok_one {c : Cell} (h : c.ok = true) {u : Value} (hu : c.rep F r u) : u.oneCell' = true := by
  cases c with
  | v x => rw [show u = x from hu]; exact h
  | w k x => rw [show u = _ from hu]; rfl
  | p j o => rw [show u = _ from hu]; rfl
  | h j => exact hu.2
  | d ts l => exact RepT.one (t := .sl ts) hu
  | q ts x => obtain ⟨b, o, h1, _⟩ := hu; rw [h1]; rfl
  | e j a b c f k => rw [hu.1]; rfl
  | er j a b c => rw [hu.1]; rfl
  | hs j a b c f => exact hu.2
  | s j a b c f => rw [show u = _ from hu]; rfl
  | clo f caps => obtain ⟨vs, _, h2⟩ := hu; rw [h2]; exact cloV_one f vs
  | y i pv =>
    rw [show u = pv.val from hu]
    cases pv with
    | v x => exact h
    | w k x => rfl
theorem okAll_one : ∀ {l : List Cell}, okAll l = true → ∀ {vs : List Value}, cellsRep F r l vs → ∀ v ∈ vs, v.oneCell' = true
  | [], _, [], _, v, hv => by cases hv
  | [], _, _ :: _, h, _, _ => h.elim
  | _ :: _, _, [], h, _, _ => h.elim
  | c :: l, h, u :: vs, hr, v, hv => by
    simp only [okAll, Bool.and_eq_true] at h
    rcases List.mem_cons.1 hv with rfl | hv
    · exact Cell.ok_one h.1 hr.1
    · exact okAll_one h.2 hr.2 v hv
theorem Value.cells_one {u : Value} (h : u.oneCell' = true) : u.cells = #[u] := by
  cases u <;> first | rfl | simp [Value.oneCell'] at h
theorem Part.cells_rep {x : Part} (h : okAll x.cells = true) {u : Value} (hu : x.rep F r u) : ∃ vs : List Value, u.cells = vs.toArray ∧ cellsRep F r x.cells vs ∧ ∀ v ∈ vs, v.oneCell' = true := by
  cases x with
  | many l =>
    obtain ⟨vs, h1, rfl⟩ := hu
    exact ⟨vs, rfl, h1, okAll_one h h1⟩
  | one c =>
    simp only [Part.cells, okAll, Bool.and_true] at h
    have h1 := Cell.ok_one h hu
    exact ⟨[u], Value.cells_one h1, ⟨hu, trivial⟩, fun v hv => by simp at hv; subst hv; exact h1⟩
theorem Part.cells_inn {x : Part} (h : x.inn D) : ∀ c ∈ x.cells, c.inn D := by
  cases x with
  | one c => intro y hy; simp [Part.cells] at hy; subst hy; exact h
  | many l => exact h
theorem putR_rep {l : List Cell} {vs : List Value} (hl : cellsRep F r l vs) {off : Nat} {cs : List Cell} {us : List Value} (hc : cellsRep F r cs us) :
    cellsRep F r (putR l off cs) (vs.take off ++ (us ++ vs.drop (off + us.length))) := by
  unfold putR
  rw [cellsRep_length hc]
  exact cellsRep_append (cellsRep_take off hl) (cellsRep_append hc (cellsRep_drop _ hl))
/-! ### Composite values -/
def fillA (place : Nat → Option (Nat × Nat)) : List Cell → List (Nat × Part) → Option (List Cell)
  | cells, [] => some cells
  | cells, (i, x) :: rest => match place i with
    | none => none
    | some (off, size) => bif Nat.beq x.cells.length size && (Nat.ble (off + x.cells.length) cells.length && okAll x.cells) then fillA place (putR cells off x.cells) rest else none
theorem foldl_put (off : Nat) : ∀ (us : List Value) (k : Nat) (cells : Array Value), off + k + us.length ≤ cells.size →
    (us.zipIdx k).foldl (fun a (p : Value × Nat) => a.setIfInBounds (off + p.2) p.1) cells = (cells.toList.take (off + k) ++ (us ++ cells.toList.drop (off + k + us.length))).toArray
  | [], k, cells, h => by simp
  | c :: cs, k, cells, h => by
    simp only [List.zipIdx_cons, List.foldl_cons]
    simp only [List.length_cons] at h
    rw [foldl_put off cs (k + 1) _ (by rw [Array.size_setIfInBounds]; omega)]
    apply Array.ext'
    simp only [Array.toList_setIfInBounds, List.length_cons]
    apply List.ext_getElem?
    intro i
    have hs : cells.toList.length = cells.size := by simp
    by_cases h1 : i < off + k
    · rw [List.getElem?_append_left (by simp; omega), List.getElem?_append_left (by simp; omega), List.getElem?_take, List.getElem?_take, if_pos (by omega), if_pos h1, List.getElem?_set, if_neg (by omega)]
    · by_cases h2 : i = off + k
      · subst h2
        rw [List.getElem?_append_left (by simp; omega), List.getElem?_append_right (by simp; omega), List.getElem?_take, if_pos (by omega), List.getElem?_set, if_pos rfl, if_pos (by omega)]
        simp [hs]
        rw [show off + k - min (off + k) cells.size = 0 by omega]; rfl
      · have e1 : (List.take (off + (k + 1)) (cells.toList.set (off + k) c)).length = off + k + 1 := by simp; omega
        have e2 : (List.take (off + k) cells.toList).length = off + k := by simp; omega
        rw [List.getElem?_append_right (l₁ := List.take (off + (k + 1)) (cells.toList.set (off + k) c)) (by omega), List.getElem?_append_right (l₁ := List.take (off + k) cells.toList) (by omega), e1, e2]
        rw [show i - (off + k) = (i - (off + k + 1)) + 1 by omega, List.cons_append, List.getElem?_cons_succ]
        by_cases h3 : i - (off + k + 1) < cs.length
        · rw [List.getElem?_append_left (by omega), List.getElem?_append_left (by omega)]
        · rw [List.getElem?_append_right (by omega), List.getElem?_append_right (by omega), List.getElem?_drop, List.getElem?_drop, List.getElem?_set, if_neg (by omega)]
          congr 1; omega
def ipRep (F : Frag) (r : Loc) : List (Nat × Part) → List (Nat × Value) → Prop
  | [], [] => True
  | p :: ps, u :: us => p.1 = u.1 ∧ p.2.rep F r u.2 ∧ ipRep F r ps us
  | _, _ => False
theorem fillA_fill {place : Nat → Option (Nat × Nat)} : ∀ {parts : List (Nat × Part)} {cells cells' : List Cell} {us : List (Nat × Value)} {vs : List Value}, fillA place cells parts = some cells' →
    cellsRep F r cells vs → ipRep F r parts us → ∃ vs', Instr.fill place vs.toArray us = some vs'.toArray ∧ cellsRep F r cells' vs'
  | [], cells, cells', [], vs, h, hv, _ => by simp [fillA] at h; subst h; exact ⟨vs, rfl, hv⟩
  | [], _, _, _ :: _, _, _, _, h => h.elim
  | _ :: _, _, _, [], _, _, _, h => h.elim
  | (i, x) :: rest, cells, cells', (j, u) :: us, vs, h, hv, hp => by
    obtain ⟨hij, hx, hp⟩ := hp
    simp only at hij hx; subst hij
    simp only [fillA] at h
    split at h
    · cases h
    rename_i off size hpl
    cases hb : (Nat.beq x.cells.length size && (Nat.ble (off + x.cells.length) cells.length && okAll x.cells)) with
    | false => rw [hb] at h; cases h
    | true =>
      rw [hb] at h
      simp only [Bool.and_eq_true] at hb
      simp only [cond_true] at h
      have h1 : x.cells.length = size := Nat.eq_of_beq_eq_true hb.1
      have h2 : off + x.cells.length ≤ cells.length := Nat.le_of_ble_eq_true hb.2.1
      obtain ⟨cs, hcs, hcr, _⟩ := Part.cells_rep hb.2.2 hx
      have hcl := cellsRep_length hcr
      have hvl := cellsRep_length hv
      obtain ⟨vs', g1, g2⟩ := fillA_fill h (putR_rep hv (off := off) hcr) hp
      refine ⟨vs', ?_, g2⟩
      simp only [Instr.fill, hpl, hcs]
      rw [if_neg (by simp; omega)]
      have key : (cs.toArray.zipIdx.foldl (fun a (p : Value × Nat) => a.setIfInBounds (off + p.2) p.1) vs.toArray) = (vs.take off ++ (cs ++ vs.drop (off + cs.length))).toArray := by
        rw [← Array.foldl_toList, Array.toList_zipIdx, foldl_put off cs 0 _ (by simp; omega)]
        simp
      exact (congrArg (fun y => Instr.fill place y us) key).trans g1
theorem fillA_inn {place : Nat → Option (Nat × Nat)} : ∀ {parts : List (Nat × Part)} {cells cells' : List Cell}, fillA place cells parts = some cells' → (∀ c ∈ cells, c.inn D) → (∀ p ∈ parts, p.2.inn D) → ∀ c ∈ cells', c.inn D
  | [], cells, cells', h, hc, _ => by simp [fillA] at h; subst h; exact hc
  | (i, x) :: rest, cells, cells', h, hc, hp => by
    simp only [fillA] at h
    split at h
    · cases h
    cases hb : (Nat.beq x.cells.length _ && (Nat.ble (_ + x.cells.length) cells.length && okAll x.cells)) with
    | false => rw [hb] at h; cases h
    | true =>
      rw [hb] at h
      simp only [cond_true] at h
      refine fillA_inn h (fun c hm => ?_) (fun p hm => hp p (List.mem_cons_of_mem _ hm))
      rcases putR_mem hm with hm | hm
      · exact hc c hm
      · exact Part.cells_inn (hp (i, x) List.mem_cons_self) c hm
def evalParts (E : Ef) : List (Nat × Operand) → Option (List (Nat × Part))
  | [] => some []
  | (i, x) :: l => match evalO E x, evalParts E l with
    | some (.p q), some r => some ((i, q) :: r)
    | _, _ => none
theorem evalParts_rep {E : Ef} {a : Act} (he : EnvR F r E a) : ∀ {l : List (Nat × Operand)} {ps : List (Nat × Part)}, evalParts E l = some ps → ipRep F r ps (l.map fun (p : Nat × Operand) => (p.1, a.eval p.2))
  | [], ps, h => by simp [evalParts] at h; subst h; trivial
  | (i, x) :: l, ps, h => by
    simp only [evalParts] at h
    split at h
    · rename_i q r' hq hr
      injection h with h; subst h
      exact ⟨rfl, evalO_rep he hq, evalParts_rep he hr⟩
    · cases h
theorem evalParts_inn {E : Ef} (he : EnvIn D E) : ∀ {l : List (Nat × Operand)} {ps : List (Nat × Part)}, evalParts E l = some ps → ∀ p ∈ ps, p.2.inn D
  | [], ps, h => by simp [evalParts] at h; subst h; intro p hp; cases hp
  | (i, x) :: l, ps, h => by
    simp only [evalParts] at h
    split at h
    · rename_i q r' hq hr
      injection h with h; subst h
      intro p hp
      rcases List.mem_cons.1 hp with rfl | hp
      · exact evalO_inn he hq
      · exact evalParts_inn he hr p hp
    · cases h
def buildA (P : Program) (t : TypeId) (parts : List (Nat × Part)) : Option Part :=
  match pureSem P (zeroValue t) with
  | none => none
  | some z => bif okAll (ofK1 z).cells then
      match P.underlying t with
      | some (.struct fields) => match pureSem P (fields.mapM fun f => do pure (f.offset, ← sizeOf f.type)) with
        | some places => match fillA (fun i => places[i]?) (ofK1 z).cells parts with
          | some cs => some (.many cs)
          | none => none
        | none => none
      | some (.array _ elem) => match pureSem P (sizeOf elem) with
        | some size => match fillA (fun i => some (i * size, size)) (ofK1 z).cells parts with
          | some cs => some (.many cs)
          | none => none
        | none => none
      | _ => none
    else none
theorem buildA_run {t : TypeId} {ps : List (Nat × Part)} {x : Part} (h : buildA P t ps = some x) {us : List (Nat × Value)} (hu : ipRep F r ps us) (w : World) :
    ∃ v, (Instr.build t us.toArray).run P w = .ok v w ∧ x.rep F r v := by
  unfold buildA at h
  split at h
  · cases h
  rename_i z hz
  cases hok : okAll (ofK1 z).cells with
  | false => rw [hok] at h; cases h
  | true =>
    rw [hok] at h
    simp only [cond_true] at h
    obtain ⟨zs, hzc, hzr, _⟩ := Part.cells_rep hok (ofK1_rep F r z)
    unfold Instr.build
    rw [Sem.run_bind, pureSem_run hz]
    simp only [Result.andThen_ok, hzc]
    split at h
    · rename_i fields hfu
      split at h
      · rename_i places hpl
        split at h
        · rename_i cs hcs
          injection h with h; subst h
          obtain ⟨vs', hf, hr⟩ := fillA_fill hcs hzr hu
          refine ⟨.agg vs'.toArray, ?_, vs', hr, rfl⟩
          simp only [Sem.run_bind, run_underlying hfu, Result.andThen_ok]
          rw [pureSem_run hpl w]
          simp only [Result.andThen_ok, hf, Sem.run_pure]
        · cases h
      · cases h
    · rename_i n elem hfu
      split at h
      · rename_i size hsz
        split at h
        · rename_i cs hcs
          injection h with h; subst h
          obtain ⟨vs', hf, hr⟩ := fillA_fill hcs hzr hu
          refine ⟨.agg vs'.toArray, ?_, vs', hr, rfl⟩
          simp only [Sem.run_bind, run_underlying hfu, Result.andThen_ok, pureSem_run hsz, hf, Sem.run_pure]
        · cases h
      · cases h
    · cases h
theorem buildA_inn {t : TypeId} {ps : List (Nat × Part)} {x : Part} (h : buildA P t ps = some x) (hp : ∀ p ∈ ps, p.2.inn D) : x.inn D := by
  unfold buildA at h
  split at h
  · cases h
  rename_i z hz
  cases hok : okAll (ofK1 z).cells with
  | false => rw [hok] at h; cases h
  | true =>
    rw [hok] at h
    simp only [cond_true] at h
    have hzl : ∀ c ∈ (ofK1 z).cells, c.inn D := Part.cells_inn (ofK1_inn D z)
    split at h
    · split at h
      · split at h
        · rename_i cs hcs
          injection h with h; subst h
          exact fillA_inn hcs hzl hp
        · cases h
      · cases h
    · split at h
      · split at h
        · rename_i cs hcs
          injection h with h; subst h
          exact fillA_inn hcs hzl hp
        · cases h
      · cases h
    · cases h
end
end Go.Sz
