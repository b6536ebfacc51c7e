/-
  A symbolic machine for one call: memory that the call owns, and the operations that turn nothing.
-/
import Derived.Test.YtlaaljiffcablaaGreatDoorSyA
namespace Go.Sy
open Go Go.RowKit

/-! ### Lists, for the kernel -/
def nth {α : Type} : List α → Nat → Option α
  | [], _ => none
  | a :: _, 0 => some a
  | _ :: l, n + 1 => nth l n

theorem nth_eq {α : Type} : ∀ (l : List α) (n : Nat), nth l n = l[n]?
  | [], n => by cases n <;> rfl
  | a :: l, 0 => rfl
  | a :: l, n + 1 => by simp [nth, nth_eq l n]

def takeX {α : Type} : Nat → List α → Option (List α)
  | 0, _ => some []
  | _ + 1, [] => none
  | n + 1, c :: l => match takeX n l with
    | some r => some (c :: r)
    | none => none

theorem takeX_spec {α : Type} : ∀ (n : Nat) (l r : List α), takeX n l = some r → r = l.take n ∧ r.length = n
  | 0, l, r, h => by simp [takeX] at h; subst h; simp
  | n + 1, [], r, h => by cases h
  | n + 1, c :: l, r, h => by
    simp only [takeX] at h
    split at h
    · rename_i r' hr
      injection h with h; subst h
      obtain ⟨h1, h2⟩ := takeX_spec n l r' hr
      subst h1
      simp at h2 ⊢
      omega
    · cases h

/-! ### The memory that is owned -/
def HeapIs (r : Loc) (hp : Hp) (w : World) : Prop :=
  ∀ j l, hp[j]? = some l → w.rangeAt (r j).1 (r j).2 (denCells r l) ∧ w.there (r j).1 (r j).2 l.length

theorem denCells_length (r : Loc) : ∀ l : List Cell, (denCells r l).length = l.length
  | [] => rfl
  | c :: l => by simp [denCells, denCells_length r l]

theorem denCells_getElem? (r : Loc) : ∀ (l : List Cell) (i : Nat), (denCells r l)[i]? = (l[i]?).map (Cell.den r)
  | [], i => by simp [denCells]
  | c :: l, 0 => by simp [denCells]
  | c :: l, i + 1 => by simp [denCells, denCells_getElem? r l i]

theorem denCells_drop (r : Loc) : ∀ (n : Nat) (l : List Cell), denCells r (l.drop n) = (denCells r l).drop n
  | 0, l => by simp
  | n + 1, [] => by simp [denCells]
  | n + 1, c :: l => by simp [denCells, denCells_drop r n l]

theorem denCells_take (r : Loc) : ∀ (n : Nat) (l : List Cell), denCells r (l.take n) = (denCells r l).take n
  | 0, l => by simp [denCells]
  | n + 1, [] => by simp [denCells]
  | n + 1, c :: l => by simp [denCells, denCells_take r n l]

theorem denCells_append (r : Loc) : ∀ (l m : List Cell), denCells r (l ++ m) = denCells r l ++ denCells r m
  | [], m => rfl
  | c :: l, m => by simp [denCells, denCells_append r l m]

/-- What a variable of type t at offset off of an object holds. -/
def loadA (P : Program) (hp : Hp) (t : TypeId) (j off : Nat) : Option Part :=
  match nth hp j with
  | none => none
  | some l => match pureSem P (isAgg t) with
    | some true => match pureSem P (sizeOf t) with
      | some n => match takeX n (l.drop off) with
        | some cs => some (.many cs)
        | none => none
      | none => none
    | some false => match nth l off with
      | some c => some (.one c)
      | none => none
    | none => none

theorem loadA_run {P : Program} {r : Loc} {hp : Hp} {w : World} (hh : HeapIs r hp w) {t : TypeId} {j off : Nat} {x : Part} (h : loadA P hp t j off = some x) :
    (loadVar t ⟨(r j).1, (r j).2 + off, none⟩).run P w = .ok (x.den r) w := by
  unfold loadA at h
  split at h
  · cases h
  rename_i l hl
  rw [nth_eq] at hl
  obtain ⟨hr, _⟩ := hh j l hl
  split at h
  · rename_i hagg
    split at h
    · rename_i n hn
      split at h
      · rename_i cs hcs
        injection h with h; subst h
        obtain ⟨h1, h2⟩ := takeX_spec _ _ _ hcs
        unfold loadVar
        rw [Sem.run_bind, pureSem_run hagg]
        simp only [Result.andThen_ok, if_true, Sem.run_bind, pureSem_run hn]
        have hlen : (denCells r cs).length = n := by rw [denCells_length, h2]
        have := run_loadCells_list (P := P) w ⟨(r j).1, (r j).2 + off, none⟩ (denCells r cs) (fun i v hv => by
          rw [Addr.add_mid]
          have : (denCells r l)[off + i]? = some v := by
            rw [h1, denCells_take, denCells_drop] at hv
            rw [List.getElem?_take] at hv
            split at hv
            · rw [List.getElem?_drop] at hv; exact hv
            · cases hv
          have := hr (off + i) v this
          rw [← Nat.add_assoc] at this
          exact this)
        rw [hlen] at this
        simp [this, Part.den]
      · cases h
    · cases h
  · rename_i hagg
    split at h
    · rename_i c hc
      injection h with h; subst h
      rw [nth_eq] at hc
      unfold loadVar
      rw [Sem.run_bind, pureSem_run hagg]
      have h1 : w.cell? ⟨(r j).1, (r j).2 + off, none⟩ = some (c.den r) := hr off (c.den r) (by rw [denCells_getElem?, hc]; rfl)
      simp [h1, Part.den]
    · cases h
  · cases h

theorem loadA_lt {P : Program} {n : Nat} {hp : Hp} (hl : ∀ l ∈ hp, ∀ c ∈ l, c.lt n) {t : TypeId} {j off : Nat} {x : Part} (h : loadA P hp t j off = some x) : x.lt n := by
  unfold loadA at h
  split at h
  · cases h
  rename_i l hn
  rw [nth_eq] at hn
  have hm := hl l (List.mem_of_getElem? hn)
  split at h
  · split at h
    · split at h
      · rename_i cs hcs
        injection h with h; subst h
        obtain ⟨h1, _⟩ := takeX_spec _ _ _ hcs
        intro c hc
        rw [h1] at hc
        exact hm c (List.mem_of_mem_drop (List.mem_of_mem_take hc))
      · cases h
    · cases h
  · split at h
    · rename_i c hc
      injection h with h; subst h
      rw [nth_eq] at hc
      exact hm c (List.mem_of_getElem? hc)
    · cases h
  · cases h

/-! ### Parts of aggregates -/
def partA (P : Program) (t : TypeId) (l : List Cell) (off : Nat) : Option Part :=
  match pureSem P (isAgg t) with
  | some true => match pureSem P (sizeOf t) with
    | some n => match takeX n (l.drop off) with
      | some cs => some (.many cs)
      | none => none
    | none => none
  | some false => match nth l off with
    | some c => some (.one c)
    | none => none
  | none => none

theorem partA_run {P : Program} {r : Loc} {w : World} {t : TypeId} {l : List Cell} {off : Nat} {x : Part} (h : partA P t l off = some x) :
    (part t (denCells r l).toArray off).run P w = .ok (x.den r) w := by
  unfold partA at h
  split at h
  · rename_i hagg
    split at h
    · rename_i n hn
      split at h
      · rename_i cs hcs
        injection h with h; subst h
        obtain ⟨h1, h2⟩ := takeX_spec _ _ _ hcs
        unfold part
        rw [Sem.run_bind, pureSem_run hagg]
        simp only [Result.andThen_ok, if_true, Sem.run_bind, pureSem_run hn]
        simp [Part.den, h1, denCells_take, denCells_drop]
      · cases h
    · cases h
  · rename_i hagg
    split at h
    · rename_i c hc
      injection h with h; subst h
      rw [nth_eq] at hc
      unfold part
      rw [Sem.run_bind, pureSem_run hagg]
      have h1 : (denCells r l)[off]? = some (c.den r) := by rw [denCells_getElem?, hc]; rfl
      simp [h1, Part.den]
    · cases h
  · cases h

theorem partA_lt {P : Program} {n : Nat} {t : TypeId} {l : List Cell} (hm : ∀ c ∈ l, c.lt n) {off : Nat} {x : Part} (h : partA P t l off = some x) : x.lt n := by
  unfold partA at h
  split at h
  · split at h
    · split at h
      · rename_i cs hcs
        injection h with h; subst h
        obtain ⟨h1, _⟩ := takeX_spec _ _ _ hcs
        intro c hc
        rw [h1] at hc
        exact hm c (List.mem_of_mem_drop (List.mem_of_mem_take hc))
      · cases h
    · cases h
  · split at h
    · rename_i c hc
      injection h with h; subst h
      rw [nth_eq] at hc
      exact hm c (List.mem_of_getElem? hc)
    · cases h
  · cases h

/-! ### Words -/
def castW {k k' : IntKind} (h : k = k') (x : BitVec k.bits) : BitVec k'.bits := h ▸ x

def wOf (k : IntKind) : Cell → Option (BitVec k.bits)
  | .w k' x => if h : k' = k then some (castW h x) else none
  | _ => none

theorem wOf_den {r : Loc} {k : IntKind} {c : Cell} {x : BitVec k.bits} (h : wOf k c = some x) : c.den r = .int k x.toNat := by
  cases c <;> simp only [wOf] at h <;> try (cases h)
  rename_i k' y
  split at h
  · rename_i e
    subst e
    injection h with h; subst h; rfl
  · cases h

def binW (op : BinOp) (k : IntKind) (x y : BitVec k.bits) : Tree AV := match op with
  | .add => .ret (AV.c (.w k (x + y)))
  | .sub => .ret (AV.c (.w k (x - y)))
  | .mul => .ret (AV.c (.w k (x * y)))
  | .and => .ret (AV.c (.w k (x &&& y)))
  | .or => .ret (AV.c (.w k (x ||| y)))
  | .xor => .ret (AV.c (.w k (x ^^^ y)))
  | .andNot => .ret (AV.c (.w k (x &&& ~~~y)))
  | .quo => .ite (y == 0#k.bits) .fail (.ret (AV.c (.w k (x / y))))
  | .rem => .ite (y == 0#k.bits) .fail (.ret (AV.c (.w k (x % y))))
  | .eql => .ret (AV.b (x == y))
  | .neq => .ret (AV.b (x != y))
  | .lss => .ret (AV.b (BitVec.ult x y))
  | .leq => .ret (AV.b (BitVec.ule x y))
  | .gtr => .ret (AV.b (BitVec.ult y x))
  | .geq => .ret (AV.b (BitVec.ule y x))
  | _ => .fail

def shW (op : BinOp) (k : IntKind) (x : BitVec k.bits) (c : Cell) : Tree AV := match op, c with
  | .shl, .w _ y => .ret (AV.c (.w k (x <<< y.toNat)))
  | .shr, .w _ y => .ret (AV.c (.w k (x >>> y.toNat)))
  | .shl, .v (.int _ n) => .ite (decide (n < 0)) .fail (.ret (AV.c (.w k (x <<< n.toNat))))
  | .shr, .v (.int _ n) => .ite (decide (n < 0)) .fail (.ret (AV.c (.w k (x >>> n.toNat))))
  | _, _ => .fail

def shI (op : BinOp) (k : IntKind) (x : Int) (c : Cell) : Tree AV := match op, c with
  | .shl, .w _ y => .ret (AV.c (.v (.int k (k.wrap (x * 2 ^ (min y.toNat k.bits))))))
  | .shr, .w _ y => .ret (AV.c (.v (.int k (x.fdiv (2 ^ (min y.toNat k.bits))))))
  | .shl, .v (.int _ n) => .ite (decide (n < 0)) .fail (.ret (AV.c (.v (.int k (k.wrap (x * 2 ^ (min n.toNat k.bits)))))))
  | .shr, .v (.int _ n) => .ite (decide (n < 0)) .fail (.ret (AV.c (.v (.int k (x.fdiv (2 ^ (min n.toNat k.bits)))))))
  | _, _ => .fail

def divI (op : BinOp) (k : IntKind) (x y : Int) : Tree AV := match op with
  | .quo => .ite (decide (y = 0)) .fail (.ret (AV.c (.v (.int k (k.wrap (x.tdiv y))))))
  | .rem => .ite (decide (y = 0)) .fail (.ret (AV.c (.v (.int k (x.tmod y)))))
  | _ => .fail

def isShift : BinOp → Bool
  | .shl => true
  | .shr => true
  | _ => false
def isDiv : BinOp → Bool
  | .quo => true
  | .rem => true
  | _ => false

def arith (P : Program) (op : BinOp) (t : TypeId) (a b : Cell) (gen : Tree AV) : Tree AV :=
  match P.underlying t with
  | some (.int k) =>
    bif isShift op then
      (bif k.signed then match a with
        | .v (.int k' n) => shI op k' n b
        | _ => gen
      else match wOf k a with
        | some x => shW op k x b
        | none => gen)
    else bif k.signed then
      (bif isDiv op then match a, b with
        | .v (.int k1 x), .v (.int k2 y) => if k1 = k2 then divI op k1 x y else .fail
        | _, _ => gen
      else gen)
    else match wOf k a, wOf k b with
      | some x, some y => binW op k x y
      | _, _ => gen
  | _ => gen

def unW (P : Program) (op : UnOp) (t : TypeId) (a : Cell) (gen : Tree AV) : Tree AV :=
  match P.underlying t with
  | some (.int k) => bif k.signed then gen else match op, wOf k a with
    | .xor, some x => .ret (AV.c (.w k (~~~x)))
    | .neg, some x => .ret (AV.c (.w k (-x)))
    | _, _ => gen
  | _ => gen

def convW (P : Program) (src dst : TypeId) (a : Cell) (gen : Tree AV) : Tree AV :=
  match P.underlying src, P.underlying dst, a with
  | some _, some (.int k), .w k' x => bif k'.signed then .fail else bif k.signed then
      .ret (AV.c (.v (.int k (bif Nat.beq k.bits k'.bits then x.toInt else bif Nat.blt k'.bits k.bits then (x.toNat : Int) else k.wrap (x.toNat : Int)))))
    else .ret (AV.c (.w k (x.setWidth k.bits)))
  | some _, some (.int k), .v (.int _ n) => bif k.signed then gen else .ret (AV.c (.w k (BitVec.ofInt k.bits n)))
  | _, _, _ => gen

def mmW (b : Builtin) (a c : Cell) (gen : Tree AV) : Tree AV := match b, a with
  | .min, .w k x => match wOf k c with
    | some y => .ret (AV.c (.w k (bif BitVec.ult y x then y else x)))
    | none => gen
  | .max, .w k x => match wOf k c with
    | some y => .ret (AV.c (.w k (bif BitVec.ult x y then y else x)))
    | none => gen
  | .min, .v (.int k x) => match c with
    | .v (.int k' y) => if k = k' then .ret (AV.c (.v (.int k (bif decide (y < x) then y else x)))) else gen
    | _ => gen
  | .max, .v (.int k x) => match c with
    | .v (.int k' y) => if k = k' then .ret (AV.c (.v (.int k (bif decide (x < y) then y else x)))) else gen
    | _ => gen
  | _, _ => gen

/-! ### Equality of aggregates -/
def eqFs (P : Program) (rec : TypeId → Part → Part → Option Bool) (xs ys : List Cell) : List Field → Option Bool
  | [] => some true
  | f :: fs => if f.name ≠ "_" then
      match partA P f.type xs f.offset, partA P f.type ys f.offset with
      | some a, some b => match rec f.type a b, eqFs P rec xs ys fs with
        | some r, some q => some (r && q)
        | _, _ => none
      | _, _ => none
    else eqFs P rec xs ys fs

def eqA (P : Program) : Nat → TypeId → Part → Part → Option Bool
  | 0, _, _, _ => none
  | d + 1, t, x, y => match P.underlying t, x, y with
    | some .bool, .one (.v (.bool a)), .one (.v (.bool b)) => some (a == b)
    | some (.int _), .one (.v (.int k a)), .one (.v (.int k' b)) => if k = k' then some (a == b) else none
    | some (.int _), .one (.w k a), .one c => match wOf k c with
      | some b => some (a == b)
      | none => none
    | some .string, .one (.v (.string a)), .one (.v (.string b)) => some (a == b)
    | some (.struct fs), .many xs, .many ys => if P.stoodInHeld t then none else eqFs P (eqA P d) xs ys fs.toList
    | _, _, _ => none

theorem eqA_run {P : Program} {r : Loc} : ∀ (d : Nat) (t : TypeId) (x y : Part) (b : Bool) (w : World), eqA P d t x y = some b →
    (Op.equalIn d t (x.den r) (y.den r)).run P w = .ok b w
  | 0, _, _, _, _, _, h => by cases h
  | d + 1, t, x, y, b, w, h => by
    simp only [eqA] at h
    split at h
    · rename_i hu
      injection h with h; subst h
      simp [Op.equalIn, run_underlying hu, Part.den, Cell.den]
    · rename_i hu
      split at h
      · rename_i hk
        injection h with h; subst h
        simp [Op.equalIn, run_underlying hu, Part.den, Cell.den, hk]
      · cases h
    · rename_i k a c hu
      split at h
      · rename_i b' hb
        injection h with h; subst h
        simp only [Part.den, wOf_den hb]
        simp [Op.equalIn, run_underlying hu, Cell.den, w_eq]
      · cases h
    · rename_i hu
      injection h with h; subst h
      simp [Op.equalIn, run_underlying hu, Part.den, Cell.den]
    · rename_i fs xs ys hu
      split at h
      · cases h
      rename_i hst
      have hf : P.fieldsOf t = fs := by unfold Program.fieldsOf; rw [hu]
      have hu' : P.underlying t = some (.struct (P.fieldsOf t)) := by rw [hf]; exact hu
      simp only [Part.den]
      rw [run_equalIn_struct w d t _ _ hu' (by simpa using hst), hf]
      generalize fs.toList = l at h
      clear hf hu hu' hst
      induction l generalizing b with
      | nil => simp [eqFs] at h; subst h; rfl
      | cons f fs ih =>
        simp only [eqFs] at h
        simp only [Op.eqFields]
        split at h
        · rename_i hn
          rw [if_pos hn]
          split at h
          · rename_i a c ha hc
            split at h
            · rename_i r1 q hr1 hq
              injection h with h; subst h
              simp only [Sem.run_bind, partA_run ha, partA_run hc, Result.andThen_ok, eqA_run d _ _ _ _ w hr1, Sem.run_ite]
              cases r1
              · simp
              · simp [ih q hq]
            · cases h
          · cases h
        · rename_i hn
          rw [if_neg hn]
          exact ih b h
    · cases h

/-! ### The operations that turn nothing -/
def allVal (env : Env) : List Operand → Bool
  | [] => true
  | x :: l => isVal env x && allVal env l

def notSelect : Op → Bool
  | .select .. => false
  | _ => true

def silGen (P : Program) (env : Env) (o : Oper) : Tree AV :=
  bif notSelect o.op && allVal env o.op.operands.toList then
    match pureSem P (execOp (valO env) o) with
    | some (.value v) => .ret (ofV v)
    | _ => .fail
  else .fail

def fieldOff (s : TypeId) (field : Nat) : Sem Nat := do
  let .struct fields ← underlying s | stuck "f"
  let some f := fields[field]? | stuck "f"
  if (← sizeOf f.type) = 0 then stuck "f" else pure f.offset

def fieldA (P : Program) (s : TypeId) (field : Nat) (l : List Cell) : Option Part :=
  match P.underlying s with
  | some (.struct fields) => match fields[field]? with
    | some f => partA P f.type l f.offset
    | none => none
  | _ => none

/-- One way for each index. -/
def idxTree {α : Type} (i : Int) (f : Nat → Option α) : Nat → Nat → Tree α
  | _, 0 => .fail
  | k, n + 1 => .ite (decide (i = (k : Int))) (Tree.ofOpt (f k)) (idxTree i f (k + 1) n)

theorem idxTree_run {α : Type} {i : Int} {f : Nat → Option α} {a : α} : ∀ (n k : Nat), (idxTree i f k n).run = some a → ∃ m, k ≤ m ∧ m < k + n ∧ i = (m : Int) ∧ f m = some a
  | 0, k, h => by cases h
  | n + 1, k, h => by
    simp only [idxTree, Tree.run] at h
    by_cases hi : i = (k : Int)
    · simp only [hi, decide_true, cond_true, Tree.run_ofOpt] at h
      exact ⟨k, Nat.le_refl _, by omega, hi, h⟩
    · simp only [hi, decide_false, cond_false] at h
      obtain ⟨m, h1, h2, h3, h4⟩ := idxTree_run n (k + 1) h
      exact ⟨m, by omega, by omega, h3, h4⟩

/-! ### Bounds of a slice -/
def boundA : Option Int → Nat → Nat → Tree Nat
  | some v, y, _ => .ite (decide (0 ≤ v) && decide (v ≤ (y : Int))) (.ret v.toNat) .fail
  | none, _, d => .ret d

def boundsA (len cap : Nat) (lo hi mx : Option Int) : Tree (Nat × Nat × Nat) :=
  (boundA mx cap cap).bind fun m => (match hi, mx with
    | none, some _ => Tree.fail
    | _, _ => boundA hi m len).bind fun h => (boundA lo h 0).bind fun l => .ret (l, h, m)

def optI (env : Env) : Option Operand → Option (Option Int)
  | none => some none
  | some x => match evalO env x with
    | some (.p (.one (.v (.int _ n)))) => some (some n)
    | _ => none

theorem boundA_run {P : Program} {v : Int} {y d n : Nat} (h : (boundA (some v) y d).run = some n) (k : IntKind) (c : BoundsCode) (w : World) : (Instr.sliceBound (.int k v) y c).run P w = .ok n w := by
  simp only [boundA, Tree.run] at h
  cases hb : (decide (0 ≤ v) && decide (v ≤ (y : Int))) with
  | false => rw [hb] at h; cases h
  | true =>
    rw [hb] at h
    simp only [cond_true, Option.some.injEq] at h; subst h
    simp only [Bool.and_eq_true, decide_eq_true_eq] at hb
    simp [Instr.sliceBound, asIntOf, hb]

def valI : Option Int → Option Value → Prop
  | none, none => True
  | some n, some (.int _ m) => n = m
  | _, _ => False

theorem valI_none {o : Option Value} (h : valI none o) : o = none := by
  cases o with
  | none => rfl
  | some v => cases v <;> exact h.elim
theorem valI_some {n : Int} {o : Option Value} (h : valI (some n) o) : ∃ k, o = some (.int k n) := by
  cases o with
  | none => exact h.elim
  | some v =>
    cases v <;> first
      | exact ⟨_, by rw [show n = _ from h]⟩
      | exact h.elim

theorem boundsA_run {P : Program} {len cap : Nat} {lo hi mx : Option Int} {q : Nat × Nat × Nat} (h : (boundsA len cap lo hi mx).run = some q) {lo' hi' mx' : Option Value} (hlo : valI lo lo') (hhi : valI hi hi') (hmx : valI mx mx') (b : Bool) (w : World) :
    (Instr.sliceBounds b len cap lo' hi' mx').run P w = .ok q w := by
  obtain ⟨m, hm, h⟩ := Tree.run_bind_some h
  obtain ⟨x, hx, h⟩ := Tree.run_bind_some h
  obtain ⟨l, hl, h⟩ := Tree.run_bind_some h
  simp only [Tree.run, Option.some.injEq] at h; subst h
  unfold Instr.sliceBounds
  have e1 : ∀ {d}, lo = none → (boundA lo x d).run = some l → l = d := fun e h => by subst e; simpa [boundA, Tree.run] using h.symm
  cases mx with
  | none =>
    obtain rfl := valI_none hmx
    simp only [boundA, Tree.run, Option.some.injEq] at hm; subst hm
    cases hi with
    | none =>
      obtain rfl := valI_none hhi
      simp only [boundA, Tree.run, Option.some.injEq] at hx; subst hx
      cases lo with
      | none =>
        obtain rfl := valI_none hlo
        have := e1 rfl hl; subst this
        simp
      | some v =>
        obtain ⟨k, rfl⟩ := valI_some hlo
        simp [boundA_run hl]
    | some u =>
      obtain ⟨k', rfl⟩ := valI_some hhi
      cases lo with
      | none =>
        obtain rfl := valI_none hlo
        have := e1 rfl hl; subst this
        cases b <;> simp [boundA_run hx]
      | some v =>
        obtain ⟨k, rfl⟩ := valI_some hlo
        cases b <;> simp [boundA_run hx, boundA_run hl]
  | some z =>
    obtain ⟨k2, rfl⟩ := valI_some hmx
    cases hi with
    | none => cases hx
    | some u =>
      obtain ⟨k', rfl⟩ := valI_some hhi
      cases lo with
      | none =>
        obtain rfl := valI_none hlo
        have := e1 rfl hl; subst this
        cases b <;> simp [boundA_run hm, boundA_run hx]
      | some v =>
        obtain ⟨k, rfl⟩ := valI_some hlo
        cases b <;> simp [boundA_run hm, boundA_run hx, boundA_run hl]

theorem optI_val {r : Loc} {env : Env} {a : Act} (he : EnvOk r env a) {o : Option Operand} {v : Option Int} (h : optI env o = some v) : valI v (o.map a.eval) := by
  cases o with
  | none => simp [optI] at h; subst h; trivial
  | some x =>
    simp only [optI] at h
    split at h
    · rename_i k n hx
      injection h with h; subst h
      simp only [Option.map_some, evalO_den he hx]
      exact rfl
    · cases h

def lenA (P : Program) (b : Builtin) (ts : List TypeId) : Cell → Tree AV → Tree AV
  | .s _ _ _ n cap, gen => match b, ts with
    | .len, t :: _ => match P.underlying t with
      | some (.slice _) => .ret (AV.c (.v (.int .i64 n)))
      | _ => gen
    | .cap, t :: _ => match P.underlying t with
      | some (.slice _) => .ret (AV.c (.v (.int .i64 cap)))
      | _ => gen
    | _, _ => gen
  | _, gen => gen

def capOf : Cell → Option (Option (Nat × Nat) × Value)
  | .v x => some (none, x)
  | .p j o => some (some (j, o), undef)
  | .clo _ _ => none
  | .w k x => some (none, .int k x.toNat)
  | .s _ _ _ _ _ => none

def capsOf (env : Env) : List Operand → Option (List (Option (Nat × Nat) × Value))
  | [] => some []
  | x :: l => match evalO env x with
    | some (.p (.one c)) => match capOf c, capsOf env l with
      | some k, some ks => some (k :: ks)
      | _, _ => none
    | _ => none

def cmpA (P : Program) (op : BinOp) (t : TypeId) (x y : Part) : Option Bool :=
  bif P.eqGuardType P.depth t then none else
  match op with
  | .eql => eqA P 10000 t x y
  | .neq => match eqA P 10000 t x y with
    | some b => some (!b)
    | none => none
  | _ => none

def putR (l : List Cell) (off : Nat) (cs : List Cell) : List Cell := l.take off ++ (cs ++ l.drop (off + cs.length))

theorem putR_length {l : List Cell} {off : Nat} {cs : List Cell} (h : off + cs.length ≤ l.length) : (putR l off cs).length = l.length := by
  simp [putR]; omega

theorem putR_getElem? {l : List Cell} {off : Nat} {cs : List Cell} (h : off + cs.length ≤ l.length) (i : Nat) :
    (putR l off cs)[i]? = if off ≤ i ∧ i < off + cs.length then cs[i - off]? else l[i]? := by
  unfold putR
  have h1 : (l.take off).length = off := by simp; omega
  by_cases hi : i < off
  · rw [List.getElem?_append_left (by omega), List.getElem?_take, if_pos hi, if_neg (by omega)]
  · rw [List.getElem?_append_right (by omega), h1]
    by_cases hj : i < off + cs.length
    · rw [List.getElem?_append_left (by omega), if_pos ⟨by omega, hj⟩]
    · rw [List.getElem?_append_right (by omega), List.getElem?_drop, if_neg (by omega)]
      congr 1; omega

theorem putR_mem {l : List Cell} {off : Nat} {cs : List Cell} {c : Cell} (h : c ∈ putR l off cs) : c ∈ l ∨ c ∈ cs := by
  unfold putR at h
  rw [List.mem_append, List.mem_append] at h
  rcases h with h | h | h
  · exact .inl (List.mem_of_mem_take h)
  · exact .inr h
  · exact .inl (List.mem_of_mem_drop h)

def Part.cells : Part → List Cell
  | .one c => [c]
  | .many l => l

def Cell.ok : Cell → Bool
  | .v x => x.oneCell'
  | _ => true

def okAll : List Cell → Bool
  | [] => true
  | c :: l => c.ok && okAll l

theorem Part.cells_den {r : Loc} {x : Part} (h : okAll x.cells = true) : (x.den r).cells = (denCells r x.cells).toArray := by
  cases x with
  | many l => rfl
  | one c =>
    cases c with
    | p j o => rfl
    | clo f caps => rfl
    | w k x => rfl
    | s j o sz len cap => rfl
    | v y =>
      simp [Part.cells, okAll, Cell.ok] at h
      cases y <;> first | rfl | simp [Value.oneCell'] at h

theorem okAll_den {r : Loc} : ∀ {l : List Cell}, okAll l = true → ∀ v ∈ denCells r l, v.oneCell' = true
  | [], _, v, hv => by cases hv
  | c :: l, h, v, hv => by
    simp only [okAll, Bool.and_eq_true] at h
    simp only [denCells, List.mem_cons] at hv
    rcases hv with rfl | hv
    · cases c with
      | v x => exact h.1
      | p j o => rfl
      | clo f caps => rfl
      | w k x => rfl
      | s j o sz len cap => rfl
    · exact okAll_den h.2 v hv

theorem Part.cells_lt {n : Nat} {x : Part} (h : x.lt n) : ∀ c ∈ x.cells, c.lt n := by
  cases x with
  | one c => intro y hy; simp [Part.cells] at hy; subst hy; exact h
  | many l => exact h

/-! ### Composite values -/
def fillA (place : Nat → Option (Nat × Nat)) : List Cell → List (Nat × Part) → Option (List Cell)
  | cells, [] => some cells
  | cells, (i, x) :: rest => match place i with
    | none => none
    | some (off, size) => bif Nat.beq x.cells.length size && (Nat.ble (off + x.cells.length) cells.length && okAll x.cells) then fillA place (putR cells off x.cells) rest else none

theorem foldl_put (r : Loc) (off : Nat) : ∀ (cs : List Cell) (k : Nat) (cells : Array Value), off + k + cs.length ≤ cells.size →
    ((denCells r cs).zipIdx k).foldl (fun a (p : Value × Nat) => a.setIfInBounds (off + p.2) p.1) cells = (cells.toList.take (off + k) ++ (denCells r cs ++ cells.toList.drop (off + k + cs.length))).toArray
  | [], k, cells, h => by simp [denCells]
  | c :: cs, k, cells, h => by
    simp only [denCells, List.zipIdx_cons, List.foldl_cons]
    simp only [List.length_cons] at h
    rw [foldl_put r off cs (k + 1) _ (by rw [Array.size_setIfInBounds]; omega)]
    apply Array.ext'
    simp only [Array.toList_setIfInBounds, List.length_cons]
    apply List.ext_getElem?
    intro i
    have hs : cells.toList.length = cells.size := by simp
    have hd := denCells_length r cs
    by_cases h1 : i < off + k
    · rw [List.getElem?_append_left (by simp; omega), List.getElem?_append_left (by simp; omega), List.getElem?_take, List.getElem?_take, if_pos (by omega), if_pos h1, List.getElem?_set, if_neg (by omega)]
    · by_cases h2 : i = off + k
      · subst h2
        rw [List.getElem?_append_left (by simp; omega), List.getElem?_append_right (by simp; omega), List.getElem?_take, if_pos (by omega), List.getElem?_set, if_pos rfl, if_pos (by omega)]
        simp [hs]
        rw [show off + k - min (off + k) cells.size = 0 by omega]; rfl
      · have e1 : (List.take (off + (k + 1)) (cells.toList.set (off + k) (Cell.den r c))).length = off + k + 1 := by simp; omega
        have e2 : (List.take (off + k) cells.toList).length = off + k := by simp; omega
        rw [List.getElem?_append_right (l₁ := List.take (off + (k + 1)) (cells.toList.set (off + k) (Cell.den r c))) (by omega), List.getElem?_append_right (l₁ := List.take (off + k) cells.toList) (by omega), e1, e2]
        rw [show i - (off + k) = (i - (off + k + 1)) + 1 by omega, List.cons_append, List.getElem?_cons_succ]
        by_cases h3 : i - (off + k + 1) < cs.length
        · rw [List.getElem?_append_left (by omega), List.getElem?_append_left (by omega)]
        · rw [List.getElem?_append_right (by omega), List.getElem?_append_right (by omega), List.getElem?_drop, List.getElem?_drop, hd, List.getElem?_set, if_neg (by omega)]
          congr 1; omega

theorem fillA_fill {r : Loc} {place : Nat → Option (Nat × Nat)} : ∀ {parts : List (Nat × Part)} {cells cells' : List Cell}, fillA place cells parts = some cells' →
    Instr.fill place (denCells r cells).toArray (parts.map fun p => (p.1, p.2.den r)) = some (denCells r cells').toArray
  | [], cells, cells', h => by simp [fillA] at h; subst h; rfl
  | (i, x) :: rest, cells, cells', h => by
    simp only [fillA] at h
    split at h
    · cases h
    rename_i off size hp
    cases hb : (Nat.beq x.cells.length size && (Nat.ble (off + x.cells.length) cells.length && okAll x.cells)) with
    | false => rw [hb] at h; cases h
    | true =>
      rw [hb] at h
      simp only [Bool.and_eq_true] at hb
      simp only [cond_true] at h
      have h1 : x.cells.length = size := Nat.eq_of_beq_eq_true hb.1
      have h2 : off + x.cells.length ≤ cells.length := Nat.le_of_ble_eq_true hb.2.1
      have ih := fillA_fill (r := r) h
      simp only [List.map_cons, Instr.fill, hp]
      rw [Part.cells_den hb.2.2]
      have hsz : (denCells r x.cells).toArray.size = size := by simp [denCells_length, h1]
      have hcz : (denCells r cells).toArray.size = cells.length := by simp [denCells_length]
      rw [if_neg (by rw [hsz, hcz]; simp; omega)]
      have key : ((denCells r x.cells).toArray.zipIdx.foldl (fun cs (p : Value × Nat) => cs.setIfInBounds (off + p.2) p.1) (denCells r cells).toArray) = (denCells r (putR cells off x.cells)).toArray := by
        rw [← Array.foldl_toList, Array.toList_zipIdx, foldl_put r off x.cells 0 _ (by rw [hcz]; omega)]
        unfold putR
        rw [denCells_append, denCells_append, denCells_take, denCells_drop]
        simp
      exact (congrArg (fun y => Instr.fill place y (rest.map fun p => (p.1, p.2.den r))) key).trans ih
    done

theorem fillA_lt {n : Nat} {place : Nat → Option (Nat × Nat)} : ∀ {parts : List (Nat × Part)} {cells cells' : List Cell}, fillA place cells parts = some cells' → (∀ c ∈ cells, c.lt n) → (∀ p ∈ parts, p.2.lt n) → ∀ c ∈ cells', c.lt n
  | [], cells, cells', h, hc, _ => by simp [fillA] at h; subst h; exact hc
  | (i, x) :: rest, cells, cells', h, hc, hp => by
    simp only [fillA] at h
    split at h
    · cases h
    cases hb : (Nat.beq x.cells.length _ && (Nat.ble (_ + x.cells.length) cells.length && okAll x.cells)) with
    | false => rw [hb] at h; cases h
    | true =>
      rw [hb] at h
      simp only [cond_true] at h
      refine fillA_lt h (fun c hm => ?_) (fun p hm => hp p (List.mem_cons_of_mem _ hm))
      rcases putR_mem hm with hm | hm
      · exact hc c hm
      · exact Part.cells_lt (hp (i, x) List.mem_cons_self) c hm

def evalParts (env : Env) : List (Nat × Operand) → Option (List (Nat × Part))
  | [] => some []
  | (i, x) :: l => match evalO env x, evalParts env l with
    | some (.p q), some r => some ((i, q) :: r)
    | _, _ => none

def buildA (P : Program) (t : TypeId) (parts : List (Nat × Part)) : Option Part :=
  match pureSem P (zeroValue t) with
  | none => none
  | some z => bif okAll (ofK1 z).cells then
      match P.underlying t with
      | some (.struct fields) => match pureSem P (fields.mapM fun f => do pure (f.offset, ← sizeOf f.type)) with
        | some places => match fillA (fun i => places[i]?) (ofK1 z).cells parts with
          | some cs => some (.many cs)
          | none => none
        | none => none
      | some (.array _ elem) => match pureSem P (sizeOf elem) with
        | some size => match fillA (fun i => some (i * size, size)) (ofK1 z).cells parts with
          | some cs => some (.many cs)
          | none => none
        | none => none
      | _ => none
    else none

def sil (P : Program) (hp : Hp) (env : Env) (o : Oper) : Tree AV :=
  match o.op with
  | .move x => Tree.ofOpt (evalO env x)
  | .assign x => Tree.ofOpt (evalO env x)
  | .load t a => match evalO env a with
    | some (.p (.one (.p j off))) => match loadA P hp t j off with
      | some x => .ret (.p x)
      | none => .fail
    | _ => .fail
  | .fieldAddr s x f => match evalO env x with
    | some (.p (.one (.p j off))) => match pureSem P (fieldOff s f) with
      | some k => .ret (AV.c (.p j (off + k)))
      | none => .fail
    | _ => silGen P env o
  | .field s x f => match evalO env x with
    | some (.p (.many l)) => match fieldA P s f l with
      | some q => .ret (.p q)
      | none => .fail
    | _ => silGen P env o
  | .nilCheck x => match evalO env x with
    | some (.p (.one (.p j off))) => .ret (AV.c (.p j off))
    | some (.p (.one (.clo f caps))) => .ret (AV.c (.clo f caps))
    | _ => silGen P env o
  | .index t x i => match evalO env x, evalO env i, P.underlying t with
    | some (.p (.many l)), some (.p (.one (.v (.int _ n)))), some (.array len elem) => match pureSem P (sizeOf elem) with
      | some sz => idxTree n (fun k => match partA P elem l (k * sz) with | some q => some (.p q) | none => none) 0 len
      | none => .fail
    | _, _, _ => silGen P env o
  | .indexAddr t x i => match evalO env x, evalO env i, P.underlying t with
    | some (.p (.one (.p j off))), some (.p (.one (.v (.int _ n)))), some (.array len elem) => match pureSem P (sizeOf elem) with
      | some sz => idxTree n (fun k => some (AV.c (.p j (off + k * sz)))) 0 len
      | none => .fail
    | some (.p (.one (.s j off _ len _))), some (.p (.one (.v (.int _ n)))), some (.slice elem) => match pureSem P (sizeOf elem) with
      | some sz => idxTree n (fun k => some (AV.c (.p j (off + k * sz)))) 0 len
      | none => .fail
    | _, _, _ => silGen P env o
  | .pick c a b => match evalO env c, evalO env a, evalO env b with
    | some (.p (.one (.v (.bool b)))), some (.p (.one (.v (.bool x)))), some (.p (.one (.v (.bool y)))) => .ret (AV.b (bif b then x else y))
    | some (.p (.one (.v (.bool b)))), some x, some y => .ite b (.ret x) (.ret y)
    | _, _, _ => .fail
  | .binOp op t x y _ => match evalO env x, evalO env y with
    | some (.p (.many xs)), some (.p (.many ys)) => match cmpA P op t (.many xs) (.many ys) with
      | some b => .ret (AV.b b)
      | none => .fail
    | some (.p (.one a)), some (.p (.one b)) => arith P op t a b (silGen P env o)
    | _, _ => silGen P env o
  | .unOp op t x => match evalO env x with
    | some (.p (.one a)) => unW P op t a (silGen P env o)
    | _ => silGen P env o
  | .convert src dst x => match evalO env x with
    | some (.p (.one a)) => convW P src dst a (silGen P env o)
    | _ => silGen P env o
  | .slice t x lo hi mx => match evalO env x with
    | some (.p (.one (.p j off))) => match P.underlying t, optI env lo, optI env hi, optI env mx with
      | some (.array n elem), some lo, some hi, some mx => match pureSem P (sizeOf elem) with
        | some sz => (boundsA n n lo hi mx).bind fun q => .ret (AV.c (.s j (bif Nat.beq q.2.2 q.1 then off else off + q.1 * sz) sz (q.2.1 - q.1) (q.2.2 - q.1)))
        | none => .fail
      | _, _, _, _ => .fail
    | some (.p (.one (.s j off _ len cap))) => match P.underlying t, optI env lo, optI env hi, optI env mx with
      | some (.slice elem), some lo, some hi, some mx => match pureSem P (sizeOf elem) with
        | some sz => (boundsA len cap lo hi mx).bind fun q => .ret (AV.c (.s j (bif Nat.beq q.2.2 q.1 then off else off + q.1 * sz) sz (q.2.1 - q.1) (q.2.2 - q.1)))
        | none => .fail
      | _, _, _, _ => .fail
    | _ => silGen P env o
  | .call c => match c.callee, c.args.toList with
    | .builtin b, [x] => match evalO env x with
      | some (.p (.one a)) => lenA P b c.argTypes.toList a (silGen P env o)
      | _ => silGen P env o
    | .builtin b, [x, y] => match evalO env x, evalO env y with
      | some (.p (.one a)), some (.p (.one c)) => mmW b a c (silGen P env o)
      | _, _ => silGen P env o
    | _, _ => silGen P env o
  | .build t parts => match evalParts env parts.toList with
    | some ps => match buildA P t ps with
      | some x => .ret (.p x)
      | none => .fail
    | none => .fail
  | .extract x i => match evalO env x with
    | some (.t l) => match nth l i with
      | some q => .ret (.p q)
      | none => .fail
    | _ => silGen P env o
  | .makeFunc (.func f) first captured => bif first.isEmpty then match capsOf env captured.toList with
      | some caps => .ret (AV.c (.clo f caps))
      | none => .fail
    else .fail
  | _ => silGen P env o

def isLoad (o : Oper) : Bool := match o.op with | .load .. => true | _ => false

theorem allVal_eval {r : Loc} {env : Env} {a : Act} (h : EnvOk r env a) : ∀ {l : List Operand}, allVal env l = true → ∀ x ∈ l, a.eval x = valO env x
  | [], _, x, hx => by cases hx
  | y :: l, hl, x, hx => by
    simp only [allVal, Bool.and_eq_true] at hl
    rcases List.mem_cons.1 hx with rfl | hx
    · exact isVal_eval h hl.1
    · exact allVal_eval h hl.2 x hx

theorem silGen_run {P : Program} {r : Loc} {env : Env} {o : Oper} {av : AV} (h : (silGen P env o).run = some av) {a : Act} (he : EnvOk r env a) (w : World) :
    (execOp a.eval o).run P w = .ok (.value (av.den r)) w := by
  unfold silGen at h
  cases hb : (notSelect o.op && allVal env o.op.operands.toList) with
  | false => rw [hb] at h; cases h
  | true =>
    rw [hb] at h
    simp only [Bool.and_eq_true] at hb
    simp only [cond_true] at h
    split at h
    · rename_i v hv
      simp only [Tree.run, Option.some.injEq] at h
      subst h
      rw [execOp_congr o (fun cs b e => by rw [e] at hb; cases hb.1) (fun x hx => allVal_eval he hb.2 x (by simpa using hx)), pureSem_run hv, ofV_den]
    · cases h

theorem silGen_lt {P : Program} {n : Nat} {env : Env} {o : Oper} {av : AV} (h : (silGen P env o).run = some av) : av.lt n := by
  unfold silGen at h
  cases hb : (notSelect o.op && allVal env o.op.operands.toList) with
  | false => rw [hb] at h; cases h
  | true =>
    rw [hb] at h
    simp only [cond_true] at h
    split at h
    · simp only [Tree.run, Option.some.injEq] at h
      subst h; exact ofV_lt n _
    · cases h

theorem fieldOff_run {P : Program} {s : TypeId} {f k : Nat} (h : pureSem P (fieldOff s f) = some k) (b o : Nat) (w : World) :
    (Instr.fieldAt s (.pointer (some ⟨b, o, none⟩)) f).run P w = .ok (.pointer (some ⟨b, o + k, none⟩)) w := by
  have h1 := pureSem_run h w
  unfold fieldOff at h1
  unfold Instr.fieldAt
  simp only [Sem.run_bind] at h1 ⊢
  generalize hu : (underlying s).run P w = ru at h1 ⊢
  cases ru with
  | halt x w1 => simp [Result.andThen] at h1
  | ok d w1 =>
    simp only [Result.andThen_ok] at h1 ⊢
    cases d <;> simp only [run_stuck] at h1 <;> try (cases h1)
    rename_i fields
    simp only [] at h1 ⊢
    split at h1
    · rename_i fl hfl
      simp only [hfl, Instr.sureAddr, Sem.run_bind, Sem.run_pure, Result.andThen_ok, fieldPlace] at h1 ⊢
      generalize hs : (sizeOf fl.type).run P w1 = rs at h1 ⊢
      cases rs with
      | halt x w2 => simp [Result.andThen] at h1
      | ok n w2 =>
        simp only [Result.andThen_ok] at h1 ⊢
        split at h1
        · cases h1
        · rename_i hn
          simp only [Sem.run_pure] at h1
          injection h1 with h1 h2
          subst h1 h2
          rw [if_neg hn]
          simp [Addr.add_mid]
    · cases h1

theorem fieldA_run {P : Program} {r : Loc} {w : World} {s : TypeId} {f : Nat} {l : List Cell} {x : Part} (h : fieldA P s f l = some x) :
    (Instr.field s (.agg (denCells r l).toArray) f).run P w = .ok (x.den r) w := by
  unfold fieldA at h
  split at h
  · rename_i fields hu
    split at h
    · rename_i fl hfl
      simp [Instr.field, run_underlying hu, hfl, asAgg, partA_run h]
    · cases h
  · cases h

theorem fieldA_lt {P : Program} {n : Nat} {s : TypeId} {f : Nat} {l : List Cell} (hm : ∀ c ∈ l, c.lt n) {x : Part} (h : fieldA P s f l = some x) : x.lt n := by
  unfold fieldA at h
  split at h
  · split at h
    · exact partA_lt hm h
    · cases h
  · cases h

end Go.Sy
