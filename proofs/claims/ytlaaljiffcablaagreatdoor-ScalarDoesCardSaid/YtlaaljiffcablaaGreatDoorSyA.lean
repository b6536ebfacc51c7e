/-
  A symbolic machine for one call: values, the tree of ways, pure operations.
-/
import Derived.WalkKit
import Derived.LoopN
import Derived.Scope
import Derived.OrdersHeld
import Derived.Deep.MidRow
import Derived.Laws.StructEq
import Derived.Test.YtlaaljiffcablaaGreatDoorSyW
namespace Go.Sy
open Go Go.RowKit

/-! ### The tree of ways -/
inductive Tree (α : Type) where
  | ret (a : α)
  | ite (c : Bool) (t e : Tree α)
  | fail

def Tree.bind {α β : Type} : Tree α → (α → Tree β) → Tree β
  | .ret a, f => f a
  | .ite c t e, f => .ite c (t.bind f) (e.bind f)
  | .fail, _ => .fail

def Tree.run {α : Type} : Tree α → Option α
  | .ret a => some a
  | .ite c t e => bif c then t.run else e.run
  | .fail => none

def Tree.ofOpt {α : Type} : Option α → Tree α
  | some a => .ret a
  | none => .fail

theorem Tree.run_bind {α β : Type} (t : Tree α) (f : α → Tree β) : (t.bind f).run = t.run.bind fun a => (f a).run := by
  induction t with
  | ret a => rfl
  | ite c t e iht ihe => cases c <;> simp [Tree.bind, Tree.run, iht, ihe]
  | fail => rfl

theorem Tree.run_bind_some {α β : Type} {t : Tree α} {f : α → Tree β} {b : β} (h : (t.bind f).run = some b) : ∃ a, t.run = some a ∧ (f a).run = some b := by
  rw [Tree.run_bind] at h
  cases ht : t.run with
  | none => rw [ht] at h; cases h
  | some a => rw [ht] at h; exact ⟨a, rfl, h⟩

theorem Tree.run_ck {α : Type} {c : Bool} {t : Tree α} {a : α} (h : (Tree.ite c t .fail).run = some a) : c = true ∧ t.run = some a := by
  cases c with
  | true => exact ⟨rfl, h⟩
  | false => cases h

theorem Tree.run_ofOpt {α : Type} (o : Option α) : (Tree.ofOpt o).run = o := by cases o <;> rfl

/-! ### Cells, parts, values -/
abbrev Loc := Nat → Nat × Nat

inductive Cell where
  | v (x : Value)
  | p (j off : Nat)
  | clo (f : FuncId) (caps : List (Option (Nat × Nat) × Value))
  /-- an unsigned number -/
  | w (k : IntKind) (x : BitVec k.bits)
  /-- a slice: object, place, cells of an element, length, capacity -/
  | s (j off sz len cap : Nat)

def denCap (r : Loc) : Option (Nat × Nat) × Value → Value
  | (some (j, o), _) => .pointer (some ⟨(r j).1, (r j).2 + o, none⟩)
  | (none, v) => v

def Cell.den (r : Loc) : Cell → Value
  | .v x => x
  | .p j o => .pointer (some ⟨(r j).1, (r j).2 + o, none⟩)
  | .clo f caps => .func (.func f) #[] (caps.map (denCap r)).toArray
  | .w k x => .int k x.toNat
  | .s j o _ len cap => .slice (some ⟨(r j).1, (r j).2 + o, none⟩) len cap

inductive Part where
  | one (c : Cell)
  | many (l : List Cell)

def denCells (r : Loc) : List Cell → List Value
  | [] => []
  | c :: l => c.den r :: denCells r l

def Part.den (r : Loc) : Part → Value
  | .one c => c.den r
  | .many l => .agg (denCells r l).toArray

inductive AV where
  | p (x : Part)
  | t (l : List Part)

def AV.den (r : Loc) : AV → Value
  | .p x => x.den r
  | .t l => .tuple (l.map (Part.den r)).toArray

@[reducible] def AV.c (x : Cell) : AV := .p (.one x)
@[reducible] def AV.b (x : Bool) : AV := .p (.one (.v (.bool x)))

def Cell.toV : Cell → Option Value
  | .v x => some x
  | .clo f [] => some (.func (.func f) #[] #[])
  | .w k x => some (.int k x.toNat)
  | _ => none

def allV : List Cell → Option (List Value)
  | [] => some []
  | c :: l => match c.toV, allV l with
    | some v, some vs => some (v :: vs)
    | _, _ => none

def Part.toV : Part → Option Value
  | .one c => c.toV
  | .many l => match allV l with
    | some vs => some (.agg vs.toArray)
    | none => none

def allP : List Part → Option (List Value)
  | [] => some []
  | c :: l => match c.toV, allP l with
    | some v, some vs => some (v :: vs)
    | _, _ => none

def AV.toV : AV → Option Value
  | .p x => x.toV
  | .t l => match allP l with
    | some vs => some (.tuple vs.toArray)
    | none => none

theorem Cell.den_toV {r : Loc} {c : Cell} {v : Value} (h : c.toV = some v) : c.den r = v := by
  cases c with
  | v x => simpa [Cell.toV, Cell.den] using h
  | p j o => cases h
  | clo f caps =>
    cases caps with
    | nil => simp [Cell.toV] at h; subst h; rfl
    | cons c l => cases h
  | w k x => simpa [Cell.toV, Cell.den] using h
  | s j o sz len cap => cases h

theorem denCells_allV {r : Loc} : ∀ {l : List Cell} {vs : List Value}, allV l = some vs → denCells r l = vs
  | [], vs, h => by simp [allV] at h; subst h; rfl
  | c :: l, vs, h => by
    simp only [allV] at h
    split at h
    · rename_i v vs' hv hvs
      injection h with h; subst h
      simp [denCells, Cell.den_toV hv, denCells_allV hvs]
    · cases h

theorem Part.den_toV {r : Loc} {c : Part} {v : Value} (h : c.toV = some v) : c.den r = v := by
  cases c with
  | one c => exact Cell.den_toV h
  | many l =>
    simp only [Part.toV] at h
    split at h
    · rename_i vs hvs; injection h with h; subst h; simp [Part.den, denCells_allV hvs]
    · cases h

theorem allP_den {r : Loc} : ∀ {l : List Part} {vs : List Value}, allP l = some vs → l.map (Part.den r) = vs
  | [], vs, h => by simp [allP] at h; subst h; rfl
  | c :: l, vs, h => by
    simp only [allP] at h
    split at h
    · rename_i v vs' hv hvs
      injection h with h; subst h
      simp [Part.den_toV hv, allP_den hvs]
    · cases h

theorem AV.den_toV {r : Loc} {c : AV} {v : Value} (h : c.toV = some v) : c.den r = v := by
  cases c with
  | p x => exact Part.den_toV h
  | t l =>
    simp only [AV.toV] at h
    split at h
    · rename_i vs hvs; injection h with h; subst h; simp [AV.den, allP_den hvs]
    · cases h

def vCells : List Value → List Cell
  | [] => []
  | v :: l => .v v :: vCells l

def ofV1 : Value → Part
  | .agg cs => .many (vCells cs.toList)
  | v => .one (.v v)

def ofV : Value → AV
  | .tuple vs => .t (vs.toList.map ofV1)
  | v => .p (ofV1 v)

theorem denCells_vCells (r : Loc) : ∀ l : List Value, denCells r (vCells l) = l
  | [] => rfl
  | v :: l => by simp [vCells, denCells, Cell.den, denCells_vCells r l]

theorem ofV1_den (r : Loc) (v : Value) : (ofV1 v).den r = v := by
  cases v <;> first | rfl | simp [ofV1, Part.den, denCells_vCells]

theorem ofV_den (r : Loc) (v : Value) : (ofV v).den r = v := by
  cases v with
  | tuple vs =>
    have h : ∀ l : List Value, List.map (Part.den r) (List.map ofV1 l) = l := by
      intro l
      induction l with
      | nil => rfl
      | cons x l ih => simp only [List.map_cons, ih, ofV1_den]
    simp only [ofV, AV.den, h]
  | agg cs => exact ofV1_den r (.agg cs)
  | _ => rfl

/-! ### Scope: which objects a value names -/
def capLt (n : Nat) : Option (Nat × Nat) × Value → Prop
  | (some (j, _), _) => j < n
  | _ => True
def Cell.lt (n : Nat) : Cell → Prop
  | .v _ => True
  | .p j _ => j < n
  | .clo _ caps => ∀ c ∈ caps, capLt n c
  | .w _ _ => True
  | .s j _ _ _ _ => j < n
def Part.lt (n : Nat) : Part → Prop
  | .one c => c.lt n
  | .many l => ∀ c ∈ l, c.lt n
def AV.lt (n : Nat) : AV → Prop
  | .p x => x.lt n
  | .t l => ∀ x ∈ l, x.lt n

def Loc.agree (n : Nat) (r r' : Loc) : Prop := ∀ j, j < n → r' j = r j

theorem Cell.den_agree {n : Nat} {r r' : Loc} (h : Loc.agree n r r') {c : Cell} (hc : c.lt n) : c.den r' = c.den r := by
  cases c with
  | v x => rfl
  | p j o => simp [Cell.den, h j hc]
  | clo f caps =>
    have : caps.map (denCap r') = caps.map (denCap r) := List.map_congr_left fun x hx => by
      have hx' := hc x hx
      obtain ⟨o, v⟩ := x
      cases o with
      | none => rfl
      | some jo => obtain ⟨j, o⟩ := jo; simp [denCap, h j hx']
    simp [Cell.den, this]
  | w k x => rfl
  | s j o sz len cap => simp [Cell.den, h j hc]

theorem denCells_agree {n : Nat} {r r' : Loc} (h : Loc.agree n r r') : ∀ {l : List Cell}, (∀ c ∈ l, c.lt n) → denCells r' l = denCells r l
  | [], _ => rfl
  | c :: l, hl => by
    have h1 := Cell.den_agree h (hl c (by simp))
    have h2 := denCells_agree (l := l) h (fun x hx => hl x (by simp [hx]))
    simp [denCells, h1, h2]

theorem Part.den_agree {n : Nat} {r r' : Loc} (h : Loc.agree n r r') {c : Part} (hc : c.lt n) : c.den r' = c.den r := by
  cases c with
  | one c => exact Cell.den_agree h hc
  | many l => simp [Part.den, denCells_agree h hc]

theorem AV.den_agree {n : Nat} {r r' : Loc} (h : Loc.agree n r r') {c : AV} (hc : c.lt n) : c.den r' = c.den r := by
  cases c with
  | p x => exact Part.den_agree h hc
  | t l =>
    have : l.map (Part.den r') = l.map (Part.den r) := List.map_congr_left fun x hx => Part.den_agree h (hc x hx)
    simp [AV.den, this]

theorem Cell.lt_mono {n m : Nat} (hnm : n ≤ m) {c : Cell} (h : c.lt n) : c.lt m := by
  cases c with
  | v x => trivial
  | p j o => exact Nat.lt_of_lt_of_le h hnm
  | clo f caps =>
    intro x hx
    have h1 := h x hx
    obtain ⟨o, v⟩ := x
    cases o with
    | none => trivial
    | some jo => exact Nat.lt_of_lt_of_le h1 hnm
  | w k x => trivial
  | s j o sz len cap => exact Nat.lt_of_lt_of_le h hnm

theorem Part.lt_mono {n m : Nat} (hnm : n ≤ m) {c : Part} (h : c.lt n) : c.lt m := by
  cases c with
  | one c => exact Cell.lt_mono hnm h
  | many l => exact fun c hc => Cell.lt_mono hnm (h c hc)

theorem AV.lt_mono {n m : Nat} (hnm : n ≤ m) {c : AV} (h : c.lt n) : c.lt m := by
  cases c with
  | p x => exact Part.lt_mono hnm h
  | t l => exact fun c hc => Part.lt_mono hnm (h c hc)

theorem vCells_lt (n : Nat) : ∀ (l : List Value), ∀ c ∈ vCells l, c.lt n
  | [], c, h => by cases h
  | v :: l, c, h => by
    simp only [vCells, List.mem_cons] at h
    rcases h with rfl | h
    · trivial
    · exact vCells_lt n l c h

theorem ofV1_lt (n : Nat) (v : Value) : (ofV1 v).lt n := by
  cases v <;> first | trivial | exact vCells_lt n _

theorem ofV_lt (n : Nat) (v : Value) : (ofV v).lt n := by
  cases v with
  | tuple vs =>
    intro x hx
    obtain ⟨y, _, rfl⟩ := List.mem_map.1 hx
    exact ofV1_lt n y
  | agg cs => exact ofV1_lt n (.agg cs)
  | _ => trivial

/-! ### Constants: the unsigned numbers as bit vectors -/
def cellC : Value → Cell
  | .int k n => bif !k.signed && (decide (0 ≤ n) && Nat.blt n.toNat (2 ^ k.bits)) then .w k (BitVec.ofInt k.bits n) else .v (.int k n)
  | v => .v v

theorem cellC_den (r : Loc) (v : Value) : (cellC v).den r = v := by
  cases v with
  | int k n =>
    simp only [cellC]
    cases hb : (!k.signed && (decide (0 ≤ n) && Nat.blt n.toNat (2 ^ k.bits))) with
    | false => rfl
    | true =>
      simp only [Bool.and_eq_true, Bool.not_eq_true', decide_eq_true_eq] at hb
      obtain ⟨_, h0, h1⟩ := hb
      have h2 : n.toNat < 2 ^ k.bits := Nat.le_of_ble_eq_true h1
      simp only [cond_true, Cell.den]
      congr 1
      obtain ⟨m, rfl⟩ := Int.eq_ofNat_of_zero_le h0
      rw [BitVec.ofInt_natCast, BitVec.toNat_ofNat]
      have : m % 2 ^ k.bits = m := Nat.mod_eq_of_lt (by simpa using h2)
      rw [this]
  | _ => rfl

theorem cellC_lt (n : Nat) (v : Value) : (cellC v).lt n := by
  cases v with
  | int k m =>
    simp only [cellC]
    cases (!k.signed && (decide (0 ≤ m) && Nat.blt m.toNat (2 ^ k.bits))) <;> trivial
  | _ => trivial

def kCells : List Value → List Cell
  | [] => []
  | v :: l => cellC v :: kCells l

def ofK1 : Value → Part
  | .agg cs => .many (kCells cs.toList)
  | v => .one (cellC v)

def ofK : Value → AV
  | .tuple vs => .t (vs.toList.map ofK1)
  | v => .p (ofK1 v)

theorem denCells_kCells (r : Loc) : ∀ l : List Value, denCells r (kCells l) = l
  | [] => rfl
  | v :: l => by simp [kCells, denCells, cellC_den, denCells_kCells r l]

theorem ofK1_den (r : Loc) (v : Value) : (ofK1 v).den r = v := by
  cases v with
  | agg cs => simp [ofK1, Part.den, denCells_kCells]
  | int k m => exact cellC_den r (.int k m)
  | _ => rfl

theorem ofK_den (r : Loc) (v : Value) : (ofK v).den r = v := by
  cases v with
  | tuple vs =>
    have h : ∀ l : List Value, List.map (Part.den r) (List.map ofK1 l) = l := by
      intro l
      induction l with
      | nil => rfl
      | cons x l ih => simp only [List.map_cons, ih, ofK1_den]
    simp only [ofK, AV.den, h]
  | agg cs => exact ofK1_den r (.agg cs)
  | int k m => exact ofK1_den r (.int k m)
  | _ => rfl

theorem kCells_lt (n : Nat) : ∀ (l : List Value), ∀ c ∈ kCells l, c.lt n
  | [], c, h => by cases h
  | v :: l, c, h => by
    simp only [kCells, List.mem_cons] at h
    rcases h with rfl | h
    · exact cellC_lt n v
    · exact kCells_lt n l c h

theorem ofK1_lt (n : Nat) (v : Value) : (ofK1 v).lt n := by
  cases v with
  | agg cs => exact kCells_lt n cs.toList
  | int k m => exact cellC_lt n (.int k m)
  | _ => trivial

theorem ofK_lt (n : Nat) (v : Value) : (ofK v).lt n := by
  cases v with
  | tuple vs =>
    intro x hx
    obtain ⟨y, _, rfl⟩ := List.mem_map.1 hx
    exact ofK1_lt n y
  | agg cs => exact ofK1_lt n (.agg cs)
  | int k m => exact ofK1_lt n (.int k m)
  | _ => trivial

/-! ### Pure computations -/
def pureSem {α : Type} (P : Program) : Sem α → Option α
  | .pure a => some a
  | .program k => pureSem P (k P)
  | _ => none

theorem pureSem_run {α : Type} {P : Program} : ∀ {s : Sem α} {a : α}, pureSem P s = some a → ∀ w, s.run P w = .ok a w
  | .pure a, b, h, w => by simp [pureSem] at h; subst h; rfl
  | .program k, b, h, w => by simp only [pureSem] at h; exact pureSem_run h w
  | .load .., _, h, _ => by cases h
  | .store .., _, h, _ => by cases h
  | .new .., _, h, _ => by cases h
  | .shape .., _, h, _ => by cases h
  | .freeze .., _, h, _ => by cases h
  | .frozen .., _, h, _ => by cases h
  | .getObj .., _, h, _ => by cases h
  | .setObj .., _, h, _ => by cases h
  | .choose .., _, h, _ => by cases h
  | .sys .., _, h, _ => by cases h
  | .mark .., _, h, _ => by cases h
  | .halt .., _, h, _ => by cases h

/-! ### Environments -/
abbrev Env := List (Nat × AV)
abbrev Hp := List (List Cell)

def look : Env → Nat → Option AV
  | [], _ => none
  | (k, a) :: r, t => bif Nat.beq k t then some a else look r t

def evalO (env : Env) : Operand → Option AV
  | .tmp t => look env t
  | .const v => some (ofK v)
  | .global g => some (.p (.one (.v (.pointer (some ⟨g, 0, none⟩)))))
  | .func f => some (.p (.one (.clo f [])))

/-- The operands as plain values; 'undef' where one isn't. -/
def valO (env : Env) (x : Operand) : Value := match evalO env x with
  | some av => match av.toV with
    | some v => v
    | none => undef
  | none => undef

def isVal (env : Env) (x : Operand) : Bool := match evalO env x with
  | some av => match av.toV with
    | some _ => true
    | none => false
  | none => false

def EnvOk (r : Loc) (env : Env) (a : Act) : Prop := ∀ k av, look env k = some av → a.tmps[k]? = some (av.den r)

theorem evalO_den {r : Loc} {env : Env} {a : Act} (h : EnvOk r env a) {x : Operand} {av : AV} (hx : evalO env x = some av) : a.eval x = av.den r := by
  cases x with
  | tmp t =>
    have := h t av hx
    simp [Act.eval, this]
  | const v => simp [evalO] at hx; subst hx; simp [Act.eval, ofK_den]
  | global g => simp [evalO] at hx; subst hx; rfl
  | func f => simp [evalO] at hx; subst hx; rfl

theorem isVal_eval {r : Loc} {env : Env} {a : Act} (h : EnvOk r env a) {x : Operand} (hx : isVal env x = true) : a.eval x = valO env x := by
  unfold isVal at hx
  unfold valO
  split at hx
  · rename_i av hav
    split at hx
    · rename_i v hv
      rw [evalO_den h hav]
      simp [AV.den_toV hv]
    · cases hx
  · cases hx

theorem evalO_lt {n : Nat} {env : Env} (h : ∀ k av, look env k = some av → av.lt n) {x : Operand} {av : AV} (hx : evalO env x = some av) : av.lt n := by
  cases x with
  | tmp t => exact h t av hx
  | const v => simp [evalO] at hx; subst hx; exact ofK_lt n v
  | global g => simp [evalO] at hx; subst hx; trivial
  | func f => simp [evalO] at hx; subst hx; intro c hc; cases hc

end Go.Sy
