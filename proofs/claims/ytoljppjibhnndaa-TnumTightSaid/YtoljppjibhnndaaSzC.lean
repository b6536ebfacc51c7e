/-
  A symbolic machine for one call, with rows of any length: operations on plain values, parts of aggregates, words.
-/
import Derived.Test.YtoljppjibhnndaaSzB
import Derived.DeepKeys
namespace Go.Sz
open Go Go.RowKit Go.Sy
set_option linter.unusedVariables false
set_option linter.unusedSimpArgs false
set_option linter.constructorNameAsVariable false

/-! ### Lists, for the kernel -/
def nth {α : Type} : List α → Nat → Option α
  | [], _ => none
  | a :: _, 0 => some a
  | _ :: l, n + 1 => nth l n

theorem nth_eq {α : Type} : ∀ (l : List α) (n : Nat), nth l n = l[n]?
  | [], n => by cases n <;> rfl
  | a :: l, 0 => rfl
  | a :: l, n + 1 => by simp [nth, nth_eq l n]

def takeX {α : Type} : Nat → List α → Option (List α)
  | 0, _ => some []
  | _ + 1, [] => none
  | n + 1, c :: l => match takeX n l with
    | some r => some (c :: r)
    | none => none

theorem takeX_spec {α : Type} : ∀ (n : Nat) (l r : List α), takeX n l = some r → r = l.take n ∧ r.length = n
  | 0, l, r, h => by simp [takeX] at h; subst h; simp
  | n + 1, [], r, h => by cases h
  | n + 1, c :: l, r, h => by
    simp only [takeX] at h
    split at h
    · rename_i r' hr
      injection h with h; subst h
      obtain ⟨h1, h2⟩ := takeX_spec n l r' hr
      subst h1
      simp at h2 ⊢
      omega
    · cases h

def memN (k : Nat) : List Nat → Bool
  | [] => false
  | x :: l => bif Nat.beq x k then true else memN k l

theorem memN_iff {k : Nat} : ∀ {l : List Nat}, memN k l = true ↔ k ∈ l
  | [] => by simp [memN]
  | x :: l => by
    simp only [memN, List.mem_cons]
    cases hb : Nat.beq x k with
    | true => simp [Nat.eq_of_beq_eq_true hb]
    | false =>
      simp only [cond_false, memN_iff]
      constructor
      · exact .inr
      · rintro (rfl | h)
        · simp at hb
        · exact h

/-! ### Operands -/
abbrev Ef := Nat → Option AV

def evalO (E : Ef) : Operand → Option AV
  | .tmp t => E t
  | .const v => some (ofK v)
  | .global g => some (AV.c (.v (.pointer (some ⟨g, 0, none⟩))))
  | .func f => some (AV.c (.clo f []))

def EnvR (F : Frag) (r : Loc) (E : Ef) (a : Act) : Prop := ∀ k av, E k = some av → ∃ v, a.tmps[k]? = some v ∧ av.rep F r v
def EnvIn (D : Nat → Prop) (E : Ef) : Prop := ∀ k av, E k = some av → av.inn D

theorem evalO_rep {F : Frag} {r : Loc} {E : Ef} {a : Act} (h : EnvR F r E a) {x : Operand} {av : AV} (hx : evalO E x = some av) : av.rep F r (a.eval x) := by
  cases x with
  | tmp t =>
    obtain ⟨v, h1, h2⟩ := h t av hx
    simpa [Act.eval, h1] using h2
  | const v => simp only [evalO, Option.some.injEq] at hx; subst hx; exact ofK_rep F r v
  | global g => simp only [evalO, Option.some.injEq] at hx; subst hx; exact rfl
  | func f => simp only [evalO, Option.some.injEq] at hx; subst hx; exact ⟨[], trivial, rfl⟩

theorem evalO_inn {D : Nat → Prop} {E : Ef} (h : EnvIn D E) {x : Operand} {av : AV} (hx : evalO E x = some av) : av.inn D := by
  cases x with
  | tmp t => exact h t av hx
  | const v => simp only [evalO, Option.some.injEq] at hx; subst hx; exact ofK_inn D v
  | global g => simp only [evalO, Option.some.injEq] at hx; subst hx; trivial
  | func f => simp only [evalO, Option.some.injEq] at hx; subst hx; intro c hc; cases hc

/-- The operands as plain values; 'undef' where one isn't. -/
def valO (E : Ef) (x : Operand) : Value := match evalO E x with
  | some av => match av.toV with
    | some v => v
    | none => undef
  | none => undef

def isVal (E : Ef) (x : Operand) : Bool := match evalO E x with
  | some av => match av.toV with
    | some _ => true
    | none => false
  | none => false

theorem isVal_eval {F : Frag} {r : Loc} {E : Ef} {a : Act} (h : EnvR F r E a) {x : Operand} (hx : isVal E x = true) : a.eval x = valO E x := by
  unfold isVal at hx
  unfold valO
  split at hx
  · rename_i av hav
    split at hx
    · rename_i v hv
      have := AV.rep_toV hv (evalO_rep h hav)
      simp [this, hv]
    · cases hx
  · cases hx

def allVal (E : Ef) : List Operand → Bool
  | [] => true
  | x :: l => isVal E x && allVal E l

theorem allVal_eval {F : Frag} {r : Loc} {E : Ef} {a : Act} (h : EnvR F r E a) : ∀ {l : List Operand}, allVal E l = true → ∀ x ∈ l, a.eval x = valO E x
  | [], _, x, hx => by cases hx
  | y :: l, hl, x, hx => by
    simp only [allVal, Bool.and_eq_true] at hl
    rcases List.mem_cons.1 hx with rfl | hx
    · exact isVal_eval h hl.1
    · exact allVal_eval h hl.2 x hx

/-! ### What an operation that turns nothing yields -/
def Yl (F : Frag) (r : Loc) (D : Nat → Prop) (w : World) (av : AV) (res : Result Value) : Prop := ∃ v, res = .ok v w ∧ av.rep F r v ∧ av.inn D

theorem Yl.mk {F : Frag} {r : Loc} {D : Nat → Prop} {w : World} {av : AV} {v : Value} (h1 : av.rep F r v) (h2 : av.inn D) {res : Result Value} (h : res = .ok v w) : Yl F r D w av res := ⟨v, h, h1, h2⟩

theorem Yl.v {F : Frag} {r : Loc} {D : Nat → Prop} {w : World} {x : Value} {res : Result Value} (h : res = .ok x w) : Yl F r D w (AV.c (.v x)) res := ⟨x, h, rfl, trivial⟩
theorem Yl.w {F : Frag} {r : Loc} {D : Nat → Prop} {w : World} {k : IntKind} {x : BitVec k.bits} {res : Result Value} (h : res = .ok (.int k x.toNat) w) : Yl F r D w (AV.c (.w k x)) res := ⟨_, h, rfl, trivial⟩

theorem Yl.next {F : Frag} {r : Loc} {D : Nat → Prop} {w : World} {av : AV} {P : Program} {s : Sem Value} (h : Yl F r D w av (s.run P w)) :
    ∃ v, (do pure (Next.value (← s)) : Sem Next).run P w = .ok (.value v) w ∧ av.rep F r v ∧ av.inn D := by
  obtain ⟨v, h1, h2, h3⟩ := h
  exact ⟨v, by rw [Sem.run_bind, h1]; rfl, h2, h3⟩

def notSelect : Op → Bool
  | .select .. => false
  | _ => true

def silGen (P : Program) (E : Ef) (o : Oper) : Tree AV :=
  bif notSelect o.op && allVal E o.op.operands.toList then
    match pureSem P (execOp (valO E) o) with
    | some (.value v) => .ret (ofK v)
    | _ => .fail
  else .fail

theorem silGen_run {P : Program} {F : Frag} {r : Loc} {D : Nat → Prop} {E : Ef} {o : Oper} {av : AV} (h : (silGen P E o).run = some av) {a : Act} (he : EnvR F r E a) (w : World) :
    ∃ v, (execOp a.eval o).run P w = .ok (.value v) w ∧ av.rep F r v ∧ av.inn D := by
  unfold silGen at h
  cases hb : (notSelect o.op && allVal E o.op.operands.toList) with
  | false => rw [hb] at h; cases h
  | true =>
    rw [hb] at h
    simp only [Bool.and_eq_true] at hb
    simp only [cond_true] at h
    split at h
    · rename_i v hv
      simp only [Tree.run, Option.some.injEq] at h
      subst h
      refine ⟨v, ?_, ofK_rep F r v, ofK_inn D v⟩
      rw [execOp_congr o (fun cs b e => by rw [e] at hb; cases hb.1) (fun x hx => allVal_eval he hb.2 x (by simpa using hx)), pureSem_run hv]
    · cases h

/-! ### Parts of aggregates -/
def partA (P : Program) (t : TypeId) (l : List Cell) (off : Nat) : Option Part :=
  match pureSem P (isAgg t) with
  | some true => match pureSem P (sizeOf t) with
    | some n => match takeX n (l.drop off) with
      | some cs => some (.many cs)
      | none => none
    | none => none
  | some false => match nth l off with
    | some c => some (.one c)
    | none => none
  | none => none

theorem partA_run {P : Program} {F : Frag} {r : Loc} {w : World} {t : TypeId} {l : List Cell} {vs : List Value} (hl : cellsRep F r l vs) {off : Nat} {x : Part} (h : partA P t l off = some x) :
    ∃ v, (part t vs.toArray off).run P w = .ok v w ∧ x.rep F r v := by
  unfold partA at h
  split at h
  · rename_i hagg
    split at h
    · rename_i n hn
      split at h
      · rename_i cs hcs
        injection h with h; subst h
        obtain ⟨h1, h2⟩ := takeX_spec _ _ _ hcs
        refine ⟨.agg ((vs.drop off).take n).toArray, ?_, (vs.drop off).take n, ?_, rfl⟩
        · unfold part
          rw [Sem.run_bind, pureSem_run hagg]
          simp only [Result.andThen_ok, if_true, Sem.run_bind, pureSem_run hn]
          simp
        · rw [h1]; exact cellsRep_take n (cellsRep_drop off hl)
      · cases h
    · cases h
  · rename_i hagg
    split at h
    · rename_i c hc
      injection h with h; subst h
      rw [nth_eq] at hc
      obtain ⟨v, hv, hr⟩ := cellsRep_get hl off c hc
      refine ⟨v, ?_, hr⟩
      unfold part
      rw [Sem.run_bind, pureSem_run hagg]
      simp [hv]
    · cases h
  · cases h

theorem partA_inn {P : Program} {D : Nat → Prop} {t : TypeId} {l : List Cell} (hm : ∀ c ∈ l, c.inn D) {off : Nat} {x : Part} (h : partA P t l off = some x) : x.inn D := by
  unfold partA at h
  split at h
  · split at h
    · split at h
      · rename_i cs hcs
        injection h with h; subst h
        obtain ⟨h1, _⟩ := takeX_spec _ _ _ hcs
        intro c hc
        rw [h1] at hc
        exact hm c (List.mem_of_mem_drop (List.mem_of_mem_take hc))
      · cases h
    · cases h
  · split at h
    · rename_i c hc
      injection h with h; subst h
      rw [nth_eq] at hc
      exact hm c (List.mem_of_getElem? hc)
    · cases h
  · cases h

/-! ### Words -/
def wOf (k : IntKind) : Cell → Option (BitVec k.bits)
  | .w k' x => if h : k' = k then some (castW h x) else none
  | _ => none

theorem wOf_rep {F : Frag} {r : Loc} {k : IntKind} {c : Cell} {x : BitVec k.bits} (h : wOf k c = some x) {u : Value} (hu : c.rep F r u) : u = .int k x.toNat := by
  cases c <;> simp only [wOf] at h <;> try (cases h)
  rename_i k' y
  split at h
  · rename_i e
    subst e
    injection h with h; subst h; exact hu
  · cases h

def binW (op : BinOp) (k : IntKind) (x y : BitVec k.bits) : Tree AV := match op with
  | .add => .ret (AV.c (.w k (x + y)))
  | .sub => .ret (AV.c (.w k (x - y)))
  | .mul => .ret (AV.c (.w k (x * y)))
  | .and => .ret (AV.c (.w k (x &&& y)))
  | .or => .ret (AV.c (.w k (x ||| y)))
  | .xor => .ret (AV.c (.w k (x ^^^ y)))
  | .andNot => .ret (AV.c (.w k (x &&& ~~~y)))
  | .quo => .ite (y == 0#k.bits) .fail (.ret (AV.c (.w k (x / y))))
  | .rem => .ite (y == 0#k.bits) .fail (.ret (AV.c (.w k (x % y))))
  | .eql => .ret (AV.b (x == y))
  | .neq => .ret (AV.b (x != y))
  | .lss => .ret (AV.b (BitVec.ult x y))
  | .leq => .ret (AV.b (BitVec.ule x y))
  | .gtr => .ret (AV.b (BitVec.ult y x))
  | .geq => .ret (AV.b (BitVec.ule y x))
  | _ => .fail

def shW (op : BinOp) (k : IntKind) (x : BitVec k.bits) (c : Cell) : Tree AV := match op, c with
  | .shl, .w _ y => .ret (AV.c (.w k (x <<< y.toNat)))
  | .shr, .w _ y => .ret (AV.c (.w k (x >>> y.toNat)))
  | .shl, .v (.int _ n) => .ite (decide (n < 0)) .fail (.ret (AV.c (.w k (x <<< n.toNat))))
  | .shr, .v (.int _ n) => .ite (decide (n < 0)) .fail (.ret (AV.c (.w k (x >>> n.toNat))))
  | _, _ => .fail

def shI (op : BinOp) (k : IntKind) (x : Int) (c : Cell) : Tree AV := match op, c with
  | .shl, .w _ y => .ret (AV.c (.v (.int k (k.wrap (x * 2 ^ (min y.toNat k.bits))))))
  | .shr, .w _ y => .ret (AV.c (.v (.int k (x.fdiv (2 ^ (min y.toNat k.bits))))))
  | .shl, .v (.int _ n) => .ite (decide (n < 0)) .fail (.ret (AV.c (.v (.int k (k.wrap (x * 2 ^ (min n.toNat k.bits)))))))
  | .shr, .v (.int _ n) => .ite (decide (n < 0)) .fail (.ret (AV.c (.v (.int k (x.fdiv (2 ^ (min n.toNat k.bits)))))))
  | _, _ => .fail

/-- Signed numbers. -/
def binI (op : BinOp) (k : IntKind) (x y : Int) : Tree AV := match op with
  | .add => .ret (AV.c (.v (.int k (k.wrap (x + y)))))
  | .sub => .ret (AV.c (.v (.int k (k.wrap (x - y)))))
  | .mul => .ret (AV.c (.v (.int k (k.wrap (x * y)))))
  | .quo => .ite (decide (y = 0)) .fail (.ret (AV.c (.v (.int k (k.wrap (x.tdiv y))))))
  | .rem => .ite (decide (y = 0)) .fail (.ret (AV.c (.v (.int k (x.tmod y)))))
  | .eql => .ret (AV.b (x == y))
  | .neq => .ret (AV.b (x != y))
  | .lss => .ret (AV.b (decide (x < y)))
  | .leq => .ret (AV.b (decide (x ≤ y)))
  | .gtr => .ret (AV.b (decide (y < x)))
  | .geq => .ret (AV.b (decide (y ≤ x)))
  | _ => .fail

def isBits : BinOp → Bool
  | .and => true
  | .or => true
  | .xor => true
  | .andNot => true
  | _ => false
def isShift : BinOp → Bool
  | .shl => true
  | .shr => true
  | _ => false

def arith (P : Program) (op : BinOp) (t : TypeId) (a b : Cell) (gen : Tree AV) : Tree AV :=
  match P.underlying t with
  | some (.int k) =>
    bif isShift op then
      (bif k.signed then match a with
        | .v (.int k' n) => shI op k' n b
        | _ => gen
      else match wOf k a with
        | some x => shW op k x b
        | none => gen)
    else bif k.signed then
      (bif isBits op then gen else match a, b with
        | .v (.int k1 x), .v (.int k2 y) => if k1 = k2 then binI op k1 x y else .fail
        | _, _ => gen)
    else match wOf k a, wOf k b with
      | some x, some y => binW op k x y
      | _, _ => gen
  | _ => gen

def unW (P : Program) (op : UnOp) (t : TypeId) (a : Cell) (gen : Tree AV) : Tree AV :=
  match P.underlying t with
  | some (.int k) => bif k.signed then gen else match op, wOf k a with
    | .xor, some x => .ret (AV.c (.w k (~~~x)))
    | .neg, some x => .ret (AV.c (.w k (-x)))
    | _, _ => gen
  | _ => gen

def convW (P : Program) (src dst : TypeId) (a : Cell) (gen : Tree AV) : Tree AV :=
  match P.underlying src, P.underlying dst, a with
  | some _, some (.int k), .w k' x => bif k'.signed then .fail else bif k.signed then
      .ret (AV.c (.v (.int k (bif Nat.beq k.bits k'.bits then x.toInt else bif Nat.blt k'.bits k.bits then (x.toNat : Int) else k.wrap (x.toNat : Int)))))
    else .ret (AV.c (.w k (x.setWidth k.bits)))
  | some _, some (.int k), .v (.int _ n) => bif k.signed then gen else .ret (AV.c (.w k (BitVec.ofInt k.bits n)))
  | _, _, _ => gen

def mmW (b : Builtin) (a c : Cell) (gen : Tree AV) : Tree AV := match b, a with
  | .min, .w k x => match wOf k c with
    | some y => .ret (AV.c (.w k (bif BitVec.ult y x then y else x)))
    | none => gen
  | .max, .w k x => match wOf k c with
    | some y => .ret (AV.c (.w k (bif BitVec.ult x y then y else x)))
    | none => gen
  | .min, .v (.int k x) => match c with
    | .v (.int k' y) => if k = k' then .ret (AV.c (.v (.int k (bif decide (y < x) then y else x)))) else gen
    | _ => gen
  | .max, .v (.int k x) => match c with
    | .v (.int k' y) => if k = k' then .ret (AV.c (.v (.int k (bif decide (x < y) then y else x)))) else gen
    | _ => gen
  | _, _ => gen

section
variable {P : Program} {F : Frag} {r : Loc} {D : Nat → Prop} {av : AV}

theorem eqGuard_int (op : BinOp) (t : TypeId) (x y : Operand) (k k' : IntKind) (a b : Int) (w : World) : (eqGuard op t x y (.int k a) (.int k' b)).run P w = .ok () w := by
  cases op <;> simp [eqGuard]

theorem binW_run {op : BinOp} {k : IntKind} (hk : k.signed = false) {x y : BitVec k.bits} (h : (binW op k x y).run = some av) (t : TypeId) (w : World) :
    Yl F r D w av ((binOp op t (.int k x.toNat) (.int k y.toNat)).run P w) := by
  cases op <;> simp only [binW, Tree.run, Option.some.injEq] at h <;> try (cases h)
  case add => exact Yl.w (by simp [binOp, Op.intArith, w_add hk])
  case sub => exact Yl.w (by simp [binOp, Op.intArith, w_sub hk])
  case mul => exact Yl.w (by simp [binOp, Op.intArith, w_mul hk])
  case and => exact Yl.w (by simp only [binOp, ne_eq, not_true, if_false, Op.intBits, ofInt_toNat, wrap_toNat hk, Sem.run_pure])
  case or => exact Yl.w (by simp only [binOp, ne_eq, not_true, if_false, Op.intBits, ofInt_toNat, wrap_toNat hk, Sem.run_pure])
  case xor => exact Yl.w (by simp only [binOp, ne_eq, not_true, if_false, Op.intBits, ofInt_toNat, wrap_toNat hk, Sem.run_pure])
  case andNot => exact Yl.w (by simp only [binOp, ne_eq, not_true, if_false, Op.intBits, ofInt_toNat, wrap_toNat hk, Sem.run_pure])
  case eql => exact Yl.v (by simp only [binOp, ne_eq, not_true, if_false, Op.intCmp, w_eq, Sem.run_pure])
  case neq => exact Yl.v (by simp only [binOp, ne_eq, not_true, if_false, Op.intCmp, w_ne, Sem.run_pure])
  case lss => exact Yl.v (by simp only [binOp, ne_eq, not_true, if_false, Op.intCmp, w_lt, Sem.run_pure])
  case leq => exact Yl.v (by simp only [binOp, ne_eq, not_true, if_false, Op.intCmp, w_le, Sem.run_pure])
  case gtr => exact Yl.v (by simp only [binOp, ne_eq, not_true, if_false, Op.intCmp, gt_iff_lt, w_lt, Sem.run_pure])
  case geq => exact Yl.v (by simp only [binOp, ne_eq, not_true, if_false, Op.intCmp, ge_iff_le, w_le, Sem.run_pure])
  case quo =>
    cases hz : (y == 0#k.bits) with
    | true => rw [hz] at h; cases h
    | false =>
      rw [hz] at h
      simp only [cond_false, Option.some.injEq] at h; subst h
      have hy : ¬ ((y.toNat : Int) = 0) := fun e => by rw [w_zero] at e; rw [hz] at e; cases e
      exact Yl.w (by simp only [binOp, ne_eq, not_true, if_false, Op.intDiv, hy, w_div hk, Sem.run_pure])
  case rem =>
    cases hz : (y == 0#k.bits) with
    | true => rw [hz] at h; cases h
    | false =>
      rw [hz] at h
      simp only [cond_false, Option.some.injEq] at h; subst h
      have hy : ¬ ((y.toNat : Int) = 0) := fun e => by rw [w_zero] at e; rw [hz] at e; cases e
      exact Yl.w (by simp only [binOp, ne_eq, not_true, if_false, Op.intDiv, hy, w_mod, Sem.run_pure])

theorem binI_run {op : BinOp} {k : IntKind} {x y : Int} (h : (binI op k x y).run = some av) (t : TypeId) (w : World) :
    Yl F r D w av ((binOp op t (.int k x) (.int k y)).run P w) := by
  cases op <;> simp only [binI, Tree.run, Option.some.injEq] at h <;> try (cases h)
  case add => exact Yl.v (by simp [binOp, Op.intArith])
  case sub => exact Yl.v (by simp [binOp, Op.intArith])
  case mul => exact Yl.v (by simp [binOp, Op.intArith])
  case eql => exact Yl.v (by simp only [binOp, ne_eq, not_true, if_false, Op.intCmp, Sem.run_pure])
  case neq => exact Yl.v (by simp only [binOp, ne_eq, not_true, if_false, Op.intCmp, Sem.run_pure])
  case lss => exact Yl.v (by simp only [binOp, ne_eq, not_true, if_false, Op.intCmp, Sem.run_pure])
  case leq => exact Yl.v (by simp only [binOp, ne_eq, not_true, if_false, Op.intCmp, Sem.run_pure])
  case gtr => exact Yl.v (by simp only [binOp, ne_eq, not_true, if_false, Op.intCmp, gt_iff_lt, Sem.run_pure])
  case geq => exact Yl.v (by simp only [binOp, ne_eq, not_true, if_false, Op.intCmp, ge_iff_le, Sem.run_pure])
  all_goals
    by_cases h0 : y = 0
    · simp [h0] at h
    · simp only [h0, decide_false, cond_false, Option.some.injEq] at h; subst h
      exact Yl.v (by simp only [binOp, ne_eq, not_true, if_false, Op.intDiv, h0, Sem.run_pure])

theorem shW_run {op : BinOp} {k : IntKind} (hk : k.signed = false) {x : BitVec k.bits} {c : Cell} (h : (shW op k x c).run = some av) {u : Value} (hu : c.rep F r u) (t : TypeId) (w : World) :
    Yl F r D w av ((binOp op t (.int k x.toNat) u).run P w) := by
  unfold shW at h
  split at h
  · rename_i k' y
    simp only [Tree.run, Option.some.injEq] at h; subst h
    have h0 : ¬ ((y.toNat : Int) < 0) := by omega
    exact Yl.w (by rw [show u = .int k' y.toNat from hu]; simp only [binOp, Op.shift, h0, if_false, Int.toNat_natCast, w_shl hk, Sem.run_pure])
  · rename_i k' y
    simp only [Tree.run, Option.some.injEq] at h; subst h
    have h0 : ¬ ((y.toNat : Int) < 0) := by omega
    exact Yl.w (by rw [show u = .int k' y.toNat from hu]; simp only [binOp, Op.shift, h0, if_false, Int.toNat_natCast, w_shr, Sem.run_pure])
  · rename_i k' n
    simp only [Tree.run] at h
    by_cases h0 : n < 0
    · simp [h0] at h
    · simp only [h0, decide_false, cond_false, Option.some.injEq] at h; subst h
      exact Yl.w (by rw [show u = .int k' n from hu]; simp only [binOp, Op.shift, h0, if_false, w_shl hk, Sem.run_pure])
  · rename_i k' n
    simp only [Tree.run] at h
    by_cases h0 : n < 0
    · simp [h0] at h
    · simp only [h0, decide_false, cond_false, Option.some.injEq] at h; subst h
      exact Yl.w (by rw [show u = .int k' n from hu]; simp only [binOp, Op.shift, h0, if_false, w_shr, Sem.run_pure])
  · cases h

theorem shI_run {op : BinOp} {k : IntKind} {x : Int} {c : Cell} (h : (shI op k x c).run = some av) {u : Value} (hu : c.rep F r u) (t : TypeId) (w : World) :
    Yl F r D w av ((binOp op t (.int k x) u).run P w) := by
  unfold shI at h
  split at h
  · rename_i k' y
    simp only [Tree.run, Option.some.injEq] at h; subst h
    have h0 : ¬ ((y.toNat : Int) < 0) := by omega
    exact Yl.v (by rw [show u = .int k' y.toNat from hu]; simp only [binOp, Op.shift, h0, if_false, Int.toNat_natCast, Sem.run_pure])
  · rename_i k' y
    simp only [Tree.run, Option.some.injEq] at h; subst h
    have h0 : ¬ ((y.toNat : Int) < 0) := by omega
    exact Yl.v (by rw [show u = .int k' y.toNat from hu]; simp only [binOp, Op.shift, h0, if_false, Int.toNat_natCast, Sem.run_pure])
  · rename_i k' n
    simp only [Tree.run] at h
    by_cases h0 : n < 0
    · simp [h0] at h
    · simp only [h0, decide_false, cond_false, Option.some.injEq] at h; subst h
      exact Yl.v (by rw [show u = .int k' n from hu]; simp only [binOp, Op.shift, h0, if_false, Sem.run_pure])
  · rename_i k' n
    simp only [Tree.run] at h
    by_cases h0 : n < 0
    · simp [h0] at h
    · simp only [h0, decide_false, cond_false, Option.some.injEq] at h; subst h
      exact Yl.v (by rw [show u = .int k' n from hu]; simp only [binOp, Op.shift, h0, if_false, Sem.run_pure])
  · cases h

theorem shift_kind (op : BinOp) (hs : isShift op = true) (x y : Operand) (t : TypeId) (u v : Value) (w : World) : (eqGuard op t x y u v).run P w = .ok () w := by
  cases op <;> simp [isShift] at hs <;> simp [eqGuard]

theorem arith_run {op : BinOp} {t : TypeId} {a b : Cell} {gen : Tree AV} (h : (arith P op t a b gen).run = some av) {u v : Value} (hu : a.rep F r u) (hv : b.rep F r v) (x y : Operand) (w : World)
    (hg : gen.run = some av → Yl F r D w av ((do eqGuard op t x y u v; binOp op t u v : Sem Value).run P w)) :
    Yl F r D w av ((do eqGuard op t x y u v; binOp op t u v : Sem Value).run P w) := by
  unfold arith at h
  split at h
  · rename_i k hk0
    cases hs : isShift op with
    | true =>
      rw [hs] at h
      simp only [cond_true] at h
      cases hk : k.signed with
      | true =>
        rw [hk] at h
        simp only [cond_true] at h
        split at h
        · rename_i k' n
          rw [Sem.run_bind, shift_kind op hs, show u = .int k' n from hu]
          exact shI_run h hv t w
        · exact hg h
      | false =>
        rw [hk] at h
        simp only [cond_false] at h
        split at h
        · rename_i z hz
          rw [Sem.run_bind, shift_kind op hs, wOf_rep hz hu]
          exact shW_run hk h hv t w
        · exact hg h
    | false =>
      rw [hs] at h
      simp only [cond_false] at h
      cases hk : k.signed with
      | true =>
        rw [hk] at h
        simp only [cond_true] at h
        cases hd : isBits op with
        | true => rw [hd] at h; exact hg h
        | false =>
          rw [hd] at h
          simp only [cond_false] at h
          split at h
          · rename_i k1 m k2 n
            split at h
            · rename_i e; subst e
              rw [show u = .int k1 m from hu, show v = .int k1 n from hv, Sem.run_bind, eqGuard_int]
              exact binI_run h t w
            · cases h
          · exact hg h
      | false =>
        rw [hk] at h
        simp only [cond_false] at h
        split at h
        · rename_i p q hp hq
          rw [wOf_rep hp hu, wOf_rep hq hv, Sem.run_bind, eqGuard_int]
          exact binW_run hk h t w
        · exact hg h
  · exact hg h

theorem unW_run {op : UnOp} {t : TypeId} {a : Cell} {gen : Tree AV} (h : (unW P op t a gen).run = some av) {u : Value} (hu : a.rep F r u) (w : World)
    (hg : gen.run = some av → Yl F r D w av ((Op.unary op u).run P w)) : Yl F r D w av ((Op.unary op u).run P w) := by
  unfold unW at h
  split at h
  · rename_i k hk0
    cases hk : k.signed with
    | true => rw [hk] at h; exact hg h
    | false =>
      rw [hk] at h
      simp only [cond_false] at h
      split at h
      · rename_i x hx
        simp only [Tree.run, Option.some.injEq] at h; subst h
        rw [wOf_rep hx hu]
        exact Yl.w (by simp only [Op.unary, hk, Bool.false_eq_true, if_false, Op.intBits, w_not hk, ofInt_toNat, wrap_toNat hk, Sem.run_pure])
      · rename_i x hx
        simp only [Tree.run, Option.some.injEq] at h; subst h
        rw [wOf_rep hx hu]
        exact Yl.w (by simp only [Op.unary, Op.intArith, w_neg hk, Sem.run_pure])
      · exact hg h
  · exact hg h

theorem wrap_toInt {k k' : IntKind} (hk : k.signed = true) (hb : k.bits = k'.bits) (x : BitVec k'.bits) : k.wrap (x.toNat : Int) = x.toInt := by
  have hx : x.toNat < 2 ^ k'.bits := x.isLt
  have hpos : 0 < k'.bits := by cases k' <;> decide
  rw [BitVec.toInt_eq_toNat_cond]
  unfold IntKind.wrap
  simp only [hk, Bool.true_and, hb]
  have e1 : (2 : Int) ^ k'.bits = ((2 ^ k'.bits : Nat) : Int) := by simp
  have e2 : (2 : Int) ^ (k'.bits - 1) = ((2 ^ (k'.bits - 1) : Nat) : Int) := by simp
  have e3 : 2 ^ k'.bits = 2 * 2 ^ (k'.bits - 1) := by
    rw [← Nat.pow_succ']; congr 1; omega
  have e4 : (x.toNat : Int) % (2 : Int) ^ k'.bits = (x.toNat : Int) := by rw [e1]; exact Int.emod_eq_of_lt (by omega) (by omega)
  rw [e4, e2, e1, e3]
  generalize 2 ^ (k'.bits - 1) = m at *
  by_cases h : 2 * x.toNat < 2 * m
  · rw [if_pos h, if_neg (by simp; omega)]
  · rw [if_neg h, if_pos (by simp; omega)]

theorem wrap_wide {k k' : IntKind} (hk : k.signed = true) (hb : k'.bits < k.bits) (x : BitVec k'.bits) : k.wrap (x.toNat : Int) = (x.toNat : Int) := by
  have hx : x.toNat < 2 ^ k'.bits := x.isLt
  unfold IntKind.wrap
  simp only [hk, Bool.true_and]
  have e1 : (2 : Int) ^ k.bits = ((2 ^ k.bits : Nat) : Int) := by simp
  have e2 : (2 : Int) ^ (k.bits - 1) = ((2 ^ (k.bits - 1) : Nat) : Int) := by simp
  have e3 : 2 ^ k.bits = 2 * 2 ^ (k.bits - 1) := by
    rw [← Nat.pow_succ']; congr 1; omega
  have e5 : 2 ^ k'.bits ≤ 2 ^ (k.bits - 1) := Nat.pow_le_pow_right (by omega) (by omega)
  have e4 : (x.toNat : Int) % (2 : Int) ^ k.bits = (x.toNat : Int) := by rw [e1]; exact Int.emod_eq_of_lt (by omega) (by omega)
  rw [e4, e2]
  rw [if_neg (by simp; omega)]

theorem convW_run {src dst : TypeId} {a : Cell} {gen : Tree AV} (h : (convW P src dst a gen).run = some av) {u : Value} (hu : a.rep F r u) (w : World)
    (hg : gen.run = some av → Yl F r D w av ((convert src dst u).run P w)) : Yl F r D w av ((convert src dst u).run P w) := by
  unfold convW at h
  split at h
  · rename_i d k k' x hs hd
    cases hk' : k'.signed with
    | true => rw [hk'] at h; cases h
    | false =>
      rw [hk'] at h
      simp only [cond_false] at h
      rw [show u = .int k' x.toNat from hu]
      have hrun : (convert src dst (.int k' x.toNat)).run P w = .ok (.int k (k.wrap (x.toNat : Int))) w := by
        simp only [convert, Sem.run_bind, run_underlying hs, run_underlying hd, Result.andThen_ok, Conv.intToInt, Sem.run_pure]
      rw [hrun]
      cases hk : k.signed with
      | true =>
        rw [hk] at h
        simp only [cond_true, Tree.run, Option.some.injEq] at h; subst h
        refine Yl.v ?_
        congr 2
        cases h1 : Nat.beq k.bits k'.bits with
        | true => exact wrap_toInt hk (Nat.eq_of_beq_eq_true h1) x
        | false =>
          cases h2 : Nat.blt k'.bits k.bits with
          | true => exact wrap_wide hk (Nat.le_of_ble_eq_true h2) x
          | false => rfl
      | false =>
        rw [hk] at h
        simp only [cond_false, Tree.run, Option.some.injEq] at h; subst h
        refine Yl.w ?_
        rw [wrapNat hk, BitVec.toNat_setWidth]
  · rename_i d k k' n hs hd
    cases hk : k.signed with
    | true => rw [hk] at h; exact hg h
    | false =>
      rw [hk] at h
      simp only [cond_false, Tree.run, Option.some.injEq] at h; subst h
      rw [show u = .int k' n from hu]
      exact Yl.w (by simp only [convert, Sem.run_bind, run_underlying hs, run_underlying hd, Result.andThen_ok, Conv.intToInt, Sem.run_pure, wrap_ofInt hk])
  · exact hg h

/-- The same, of a builtin's answer. -/
def Yn (F : Frag) (r : Loc) (D : Nat → Prop) (w : World) (av : AV) (res : Result Next) : Prop := ∃ v, res = .ok (.value v) w ∧ av.rep F r v ∧ av.inn D
theorem Yn.mk {w : World} {v : Value} (h1 : av.rep F r v) (h2 : av.inn D) {res : Result Next} (h : res = .ok (.value v) w) : Yn F r D w av res := ⟨v, h, h1, h2⟩

theorem Yn.v {w : World} {x : Value} {res : Result Next} (h : res = .ok (.value x) w) : Yn F r D w (AV.c (.v x)) res := ⟨x, h, rfl, trivial⟩
theorem Yn.w {w : World} {k : IntKind} {x : BitVec k.bits} {res : Result Next} (h : res = .ok (.value (.int k x.toNat)) w) : Yn F r D w (AV.c (.w k x)) res := ⟨_, h, rfl, trivial⟩

theorem mmW_run {b : Builtin} {a c : Cell} {gen : Tree AV} (h : (mmW b a c gen).run = some av) {u v : Value} (hu : a.rep F r u) (hv : c.rep F r v) (ts : Array TypeId) (t : TypeId) (cs : Array Bool) (w : World)
    (hg : gen.run = some av → Yn F r D w av ((builtin b ts t cs #[u, v]).run P w)) : Yn F r D w av ((builtin b ts t cs #[u, v]).run P w) := by
  unfold mmW at h
  split at h
  · rename_i k x
    split at h
    · rename_i y hy
      simp only [Tree.run, Option.some.injEq] at h; subst h
      rw [show u = .int k x.toNat from hu, wOf_rep hy hv]
      refine Yn.w ?_
      simp only [builtin, Builtin.min_, List.foldlM, Builtin.min2, Sem.run_bind]
      have := w_lt y x
      cases hc : BitVec.ult y x with
      | true =>
        rw [hc] at this
        have h1 : (y.toNat : Int) < (x.toNat : Int) := by simpa using this
        simp [h1]
      | false =>
        rw [hc] at this
        have h1 : ¬ ((y.toNat : Int) < (x.toNat : Int)) := by simpa using this
        simp [h1]
    · exact hg h
  · rename_i k x
    split at h
    · rename_i y hy
      simp only [Tree.run, Option.some.injEq] at h; subst h
      rw [show u = .int k x.toNat from hu, wOf_rep hy hv]
      refine Yn.w ?_
      simp only [builtin, Builtin.max_, List.foldlM, Builtin.max2, Sem.run_bind]
      have := w_lt x y
      cases hc : BitVec.ult x y with
      | true =>
        rw [hc] at this
        have h1 : (x.toNat : Int) < (y.toNat : Int) := by simpa using this
        simp [h1]
      | false =>
        rw [hc] at this
        have h1 : ¬ ((x.toNat : Int) < (y.toNat : Int)) := by simpa using this
        simp [h1]
    · exact hg h
  · rename_i k x
    split at h
    · rename_i k' y
      split at h
      · rename_i e; subst e
        simp only [Tree.run, Option.some.injEq] at h; subst h
        rw [show u = .int k x from hu, show v = .int k y from hv]
        refine Yn.v ?_
        simp only [builtin, Builtin.min_, List.foldlM, Builtin.min2, Sem.run_bind]
        by_cases h1 : y < x <;> simp [h1]
      · exact hg h
    · exact hg h
  · rename_i k x
    split at h
    · rename_i k' y
      split at h
      · rename_i e; subst e
        simp only [Tree.run, Option.some.injEq] at h; subst h
        rw [show u = .int k x from hu, show v = .int k y from hv]
        refine Yn.v ?_
        simp only [builtin, Builtin.max_, List.foldlM, Builtin.max2, Sem.run_bind]
        by_cases h1 : x < y <;> simp [h1]
      · exact hg h
    · exact hg h
  · exact hg h
end

end Go.Sz
