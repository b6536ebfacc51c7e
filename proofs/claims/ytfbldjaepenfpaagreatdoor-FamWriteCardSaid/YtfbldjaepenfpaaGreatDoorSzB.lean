/-
  Words: what the operations on unsigned numbers come to, said of bit vectors.
  A symbolic machine for one call, with rows of any length: the tree of ways, types of data, values and what they stand for.
  A symbolic machine for one call, with rows of any length: the memory that a call owns, and how it may turn.
-/
import Derived.WalkKit
import Derived.LoopN
import Derived.Scope
import Derived.OrdersHeld
import Derived.Deep.MidRow
import Derived.Laws.StructEq
noncomputable section
namespace Go.Sy
open Go Go.RowKit
theorem wrapNat {k : IntKind} (hk : k.signed = false) (n : Nat) : k.wrap (n : Int) = ((n % 2 ^ k.bits : Nat) : Int) := by
  unfold IntKind.wrap
  simp only [hk, Bool.false_and, Bool.false_eq_true, if_false]
  rw [Int.natCast_emod]
  simp
theorem wrapU {k : IntKind} (hk : k.signed = false) (n : Int) : k.wrap n = n % ((2 ^ k.bits : Nat) : Int) := by
  unfold IntKind.wrap
  simp only [hk, Bool.false_and, Bool.false_eq_true, if_false]
  simp
theorem wrap_toNat {k : IntKind} (hk : k.signed = false) (x : BitVec k.bits) : k.wrap (x.toNat : Int) = (x.toNat : Int) := by
  rw [wrapNat hk, Nat.mod_eq_of_lt x.isLt]
theorem ofInt_toNat {w : Nat} (x : BitVec w) : BitVec.ofInt w (x.toNat : Int) = x := by
  rw [BitVec.ofInt_natCast]; simp
theorem wrap_ofInt {k : IntKind} (hk : k.signed = false) (n : Int) : k.wrap n = ((BitVec.ofInt k.bits n).toNat : Int) := by
  rw [wrapU hk, BitVec.toNat_ofInt, Int.toNat_of_nonneg]
  exact Int.emod_nonneg _ (by have := Nat.two_pow_pos k.bits; omega)
section
variable {k : IntKind} (hk : k.signed = false) (x y : BitVec k.bits)
include hk
theorem w_add : k.wrap ((x.toNat : Int) + (y.toNat : Int)) = ((x + y).toNat : Int) := by
  rw [← Int.natCast_add, wrapNat hk, BitVec.toNat_add]
theorem w_mul : k.wrap ((x.toNat : Int) * (y.toNat : Int)) = ((x * y).toNat : Int) := by
  rw [← Int.natCast_mul, wrapNat hk, BitVec.toNat_mul]
theorem w_sub : k.wrap ((x.toNat : Int) - (y.toNat : Int)) = ((x - y).toNat : Int) := by
  rw [wrap_ofInt hk]
  congr 2
  rw [Int.sub_eq_add_neg, BitVec.ofInt_add, BitVec.ofInt_neg, ofInt_toNat, ofInt_toNat, BitVec.sub_eq_add_neg]
theorem w_neg : k.wrap (0 - (y.toNat : Int)) = ((-y).toNat : Int) := by
  rw [wrap_ofInt hk, Int.zero_sub, BitVec.ofInt_neg, ofInt_toNat]
omit hk in
theorem w_eq : ((x.toNat : Int) == (y.toNat : Int)) = (x == y) := by
  rw [Bool.eq_iff_iff, beq_iff_eq, beq_iff_eq, Int.natCast_inj, BitVec.toNat_inj]
omit hk in
theorem w_ne : ((x.toNat : Int) != (y.toNat : Int)) = (x != y) := by
  simp only [bne, w_eq]
omit hk in
theorem w_lt : decide ((x.toNat : Int) < (y.toNat : Int)) = BitVec.ult x y := by
  simp only [BitVec.ult, Int.ofNat_lt]
omit hk in
theorem w_le : decide ((x.toNat : Int) ≤ (y.toNat : Int)) = BitVec.ule x y := by
  simp only [BitVec.ule, Int.ofNat_le]
theorem w_shl (n : Nat) : k.wrap ((x.toNat : Int) * 2 ^ (min n k.bits)) = ((x <<< n).toNat : Int) := by
  have h2 : ((2 : Int) ^ (min n k.bits)) = ((2 ^ (min n k.bits) : Nat) : Int) := by simp
  rw [h2, ← Int.natCast_mul, wrapNat hk, BitVec.toNat_shiftLeft, Nat.shiftLeft_eq]
  congr 1
  by_cases h : n ≤ k.bits
  · rw [Nat.min_eq_left h]
  · have h' : k.bits ≤ n := by omega
    rw [Nat.min_eq_right h', Nat.mul_mod_left]
    obtain ⟨d, rfl⟩ : ∃ d, n = k.bits + d := ⟨n - k.bits, by omega⟩
    rw [Nat.pow_add, ← Nat.mul_assoc, Nat.mul_comm x.toNat, Nat.mul_assoc, Nat.mul_mod_right]
omit hk in
theorem w_shr (n : Nat) : (x.toNat : Int).fdiv (2 ^ (min n k.bits)) = ((x >>> n).toNat : Int) := by
  have h2 : ((2 : Int) ^ (min n k.bits)) = ((2 ^ (min n k.bits) : Nat) : Int) := by simp
  rw [h2, Int.fdiv_eq_ediv_of_nonneg _ (Int.natCast_nonneg _), ← Int.natCast_ediv, BitVec.toNat_ushiftRight, Nat.shiftRight_eq_div_pow]
  congr 1
  by_cases h : n ≤ k.bits
  · rw [Nat.min_eq_left h]
  · have h' : k.bits ≤ n := by omega
    rw [Nat.min_eq_right h', Nat.div_eq_of_lt x.isLt]
    exact (Nat.div_eq_of_lt (Nat.lt_of_lt_of_le x.isLt (Nat.pow_le_pow_right (by omega) h'))).symm
theorem w_div : k.wrap ((x.toNat : Int).tdiv (y.toNat : Int)) = ((x / y).toNat : Int) := by
  rw [Int.tdiv_eq_ediv_of_nonneg (by omega), ← Int.natCast_ediv, wrapNat hk, BitVec.toNat_udiv]
  congr 1
  exact Nat.mod_eq_of_lt (Nat.lt_of_le_of_lt (Nat.div_le_self _ _) x.isLt)
omit hk in
theorem w_mod : (x.toNat : Int).tmod (y.toNat : Int) = ((x % y).toNat : Int) := by
  rw [Int.tmod_eq_emod_of_nonneg (by omega), ← Int.natCast_emod, BitVec.toNat_umod]
omit hk in
theorem w_zero : ((y.toNat : Int) = 0) ↔ (y == 0#k.bits) = true := by
  rw [beq_iff_eq, ← BitVec.toNat_inj]
  simp
theorem w_not : BitVec.ofInt k.bits k.max ^^^ x = ~~~ x := by
  have : BitVec.ofInt k.bits k.max = BitVec.allOnes k.bits := by
    unfold IntKind.max
    rw [if_neg (by simp [hk]), Int.sub_eq_add_neg, BitVec.ofInt_add, BitVec.ofInt_neg, ← BitVec.sub_eq_add_neg]
    apply BitVec.eq_of_toNat_eq
    rw [BitVec.toNat_sub, BitVec.toNat_allOnes]
    have h2 : (BitVec.ofInt k.bits (2 ^ k.bits : Int)).toNat = 0 := by
      rw [BitVec.toNat_ofInt]
      have : ((2 : Int) ^ k.bits) = ((2 ^ k.bits : Nat) : Int) := by simp
      rw [this, Int.emod_self]; rfl
    have hpos := Nat.two_pow_pos k.bits
    have h1 : (BitVec.ofInt k.bits 1).toNat = 1 % 2 ^ k.bits := by
      rw [show (1 : Int) = ((1 : Nat) : Int) from rfl, BitVec.ofInt_natCast, BitVec.toNat_ofNat]
    rw [h2, h1]
    have hb : 1 < 2 ^ k.bits := by cases k <;> simp [IntKind.bits]
    rw [Nat.mod_eq_of_lt hb, Nat.add_zero, Nat.mod_eq_of_lt (by omega)]
  rw [this]
  simp
end
end Go.Sy
namespace Go.Sz
open Go Go.RowKit
set_option linter.unusedVariables false
set_option linter.unusedSimpArgs false
set_option linter.constructorNameAsVariable false
inductive PV where
  | v (x : Value)
  | w (k : IntKind) (x : BitVec k.bits)
def PV.val : PV → Value
  | .v x => x
  | .w k x => .int k x.toNat
def PV.one : PV → Bool
  | .v x => x.oneCell'
  | .w _ _ => true
/-! ### The tree of ways -/
inductive Tree (α : Type) where
  | ret (a : α)
  | ite (c : Bool) (t e : Tree α)
  | fail
  | sy (c : Bool) (t e : Tree α)
  | ob (a b : List PV) (t : Tree α)
def Tree.bind {α β : Type} (t : Tree α) (f : α → Tree β) : Tree β :=
  Tree.rec (motive := fun _ => Tree β) (fun a => f a) (fun c _ _ x y => .ite c x y) .fail (fun c _ _ x y => .sy c x y) (fun a b _ x => .ob a b x) t
theorem Tree.bind_ite' {α β : Type} (c : Bool) (t e : Tree α) (f : α → Tree β) : (Tree.ite c t e).bind f = .ite c (t.bind f) (e.bind f) := rfl
theorem Tree.bind_sy' {α β : Type} (c : Bool) (t e : Tree α) (f : α → Tree β) : (Tree.sy c t e).bind f = .sy c (t.bind f) (e.bind f) := rfl
def ifEq {α β : Type} (a b : α) (x y : β) : β := @ite _ (a = b) (Classical.propDecidable _) x y
theorem ifEq_pos {α β : Type} {a b : α} (h : a = b) (x y : β) : ifEq a b x y = x := by unfold ifEq; rw [if_pos h]
theorem ifEq_neg {α β : Type} {a b : α} (h : ¬ a = b) (x y : β) : ifEq a b x y = y := by unfold ifEq; rw [if_neg h]
theorem ifEq_some {α β : Type} {a b : α} {x : Option β} {r : β} (h : ifEq a b x none = some r) : a = b ∧ x = some r := by
  by_cases e : a = b
  · rw [ifEq_pos e] at h; exact ⟨e, h⟩
  · rw [ifEq_neg e] at h; cases h
def Tree.run {α : Type} : Tree α → Option α
  | .ret a => some a
  | .ite c t e => bif c then t.run else e.run
  | .fail => none
  | .sy c t e => bif c then t.run else e.run
  | .ob a b t => ifEq a b t.run none
def Tree.ofOpt {α : Type} : Option α → Tree α
  | some a => .ret a
  | none => .fail
def Tree.ck (c : Bool) {α : Type} (t : Tree α) : Tree α := .ite c t .fail
theorem Tree.run_bind {α β : Type} (t : Tree α) (f : α → Tree β) : (t.bind f).run = t.run.bind fun a => (f a).run := by
  induction t with
  | ret a => rfl
  | ite c t e iht ihe => cases c <;> simp [Tree.bind_ite', Tree.run, iht, ihe]
  | fail => rfl
  | sy c t e iht ihe => cases c <;> simp [Tree.bind_sy', Tree.run, iht, ihe]
  | ob a b t ih =>
    show ifEq a b (t.bind f).run none = (ifEq a b t.run none).bind fun a => (f a).run
    by_cases h : a = b
    · rw [ifEq_pos h, ifEq_pos h, ih]
    · rw [ifEq_neg h, ifEq_neg h]; rfl
theorem Tree.run_bind_some {α β : Type} {t : Tree α} {f : α → Tree β} {b : β} (h : (t.bind f).run = some b) : ∃ a, t.run = some a ∧ (f a).run = some b := by
  rw [Tree.run_bind] at h
  cases ht : t.run with
  | none => rw [ht] at h; cases h
  | some a => rw [ht] at h; exact ⟨a, rfl, h⟩
theorem Tree.run_ck {α : Type} {c : Bool} {t : Tree α} {a : α} (h : (Tree.ck c t).run = some a) : c = true ∧ t.run = some a := by
  cases c with
  | true => exact ⟨rfl, h⟩
  | false => cases h
def Tree.flat {α : Type} (t : Tree α) : Tree α :=
  Tree.rec (motive := fun _ => Tree α) (fun a => .ret a) (fun c _ _ x y => bif c then x else y) .fail (fun c _ _ x y => .sy c x y) (fun a b _ x => .ob a b x) t
theorem Tree.flat_run {α : Type} (t : Tree α) : t.flat.run = t.run := by
  induction t with
  | ret a => rfl
  | ite c t e iht ihe =>
    show (bif c then t.flat else e.flat).run = bif c then t.run else e.run
    cases c
    · exact ihe
    · exact iht
  | fail => rfl
  | sy c t e iht ihe =>
    show (bif c then t.flat.run else e.flat.run) = bif c then t.run else e.run
    rw [iht, ihe]
  | ob a b t ih =>
    show ifEq a b t.flat.run none = ifEq a b t.run none
    rw [ih]
def Tree.flatB {α : Type} (b : Bool) (t : Tree α) : Tree α := bif b then t.flat else t
theorem Tree.flatB_run {α : Type} (b : Bool) (t : Tree α) : (t.flatB b).run = t.run := by
  cases b with
  | false => rfl
  | true => exact t.flat_run
def Tree.opn {α : Type} (t : Tree α) : Tree α :=
  Tree.rec (motive := fun _ => Tree α) (fun a => .ret a) (fun c _ _ x y => .sy c x y) .fail (fun c _ _ x y => .sy c x y) (fun a b _ x => .ob a b x) t
theorem Tree.opn_run {α : Type} (t : Tree α) : t.opn.run = t.run := by
  induction t with
  | ret a => rfl
  | ite c t e iht ihe =>
    show (bif c then t.opn.run else e.opn.run) = bif c then t.run else e.run
    rw [iht, ihe]
  | fail => rfl
  | sy c t e iht ihe =>
    show (bif c then t.opn.run else e.opn.run) = bif c then t.run else e.run
    rw [iht, ihe]
  | ob a b t ih =>
    show ifEq a b t.opn.run none = ifEq a b t.run none
    rw [ih]
def Tree.sk (c : Bool) {α : Type} (t : Tree α) : Tree α := .sy c t .fail
theorem Tree.run_sk {α : Type} {c : Bool} {t : Tree α} {a : α} (h : (Tree.sk c t).run = some a) : c = true ∧ t.run = some a := by
  cases c with
  | true => exact ⟨rfl, h⟩
  | false => cases h
def Tree.isF {α : Type} : Tree α → Bool
  | .fail => true
  | _ => false
structure Found (α : Type) where
  as : List PV
  bs : List PV
  cs : List Bool
  r : α
def Found.cond {α : Type} (c : Bool) (x : Found α) : Found α := ⟨x.as, x.bs, c :: x.cs, x.r⟩
def Found.same {α : Type} (a b : List PV) (x : Found α) : Found α := ⟨a ++ x.as, b ++ x.bs, x.cs, x.r⟩
def Tree.runP {α : Type} : Tree α → List Bool → Option (Found α)
  | .ret a, _ => some ⟨[], [], [], a⟩
  | .fail, _ => none
  | .ite c t e, l => bif c then t.runP l else e.runP l
  | .sy c t e, l => bif e.isF then (t.runP l).map (.cond c) else bif t.isF then (e.runP l).map (.cond !c) else match l with
    | true :: l => (t.runP l).map (.cond c)
    | false :: l => (e.runP l).map (.cond !c)
    | [] => none
  | .ob a b t, l => bif Nat.beq a.length b.length then (t.runP l).map (.same a b) else none
def allTrue : List Bool → Bool
  | [] => true
  | b :: l => b && allTrue l
theorem append_same {α : Type} : ∀ {a b x y : List α}, a.length = b.length → a ++ x = b ++ y → a = b ∧ x = y := fun h e => List.append_inj e h
theorem Tree.runP_run {α : Type} : ∀ {t : Tree α} {l : List Bool} {x : Found α}, t.runP l = some x → x.as = x.bs → allTrue x.cs = true → t.run = some x.r
  | .ret _, _, _, h, _, _ => by simp only [Tree.runP, Option.some.injEq] at h; rw [← h]; rfl
  | .fail, _, _, h, _, _ => by cases h
  | .ite c t e, l, x, h, hs, hc => by
    simp only [Tree.runP] at h
    cases c
    · exact Tree.runP_run (t := e) h hs hc
    · exact Tree.runP_run (t := t) h hs hc
  | .sy c t e, l, x, h, hs, hc => by
    have yes : ∀ l, (t.runP l).map (.cond c) = some x → (Tree.sy c t e).run = some x.r := fun l h => by
      obtain ⟨y, h1, rfl⟩ := Option.map_eq_some_iff.1 h
      simp only [Found.cond, allTrue, Bool.and_eq_true] at hc
      obtain ⟨rfl, hc⟩ := hc
      exact Tree.runP_run (t := t) (x := y) h1 hs hc
    have no : ∀ l, (e.runP l).map (.cond !c) = some x → (Tree.sy c t e).run = some x.r := fun l h => by
      obtain ⟨y, h1, rfl⟩ := Option.map_eq_some_iff.1 h
      simp only [Found.cond, allTrue, Bool.and_eq_true, Bool.not_eq_true'] at hc
      obtain ⟨rfl, hc⟩ := hc
      exact Tree.runP_run (t := e) (x := y) h1 hs hc
    simp only [Tree.runP] at h
    cases he : e.isF with
    | true => rw [he] at h; exact yes l h
    | false =>
      rw [he] at h
      simp only [cond_false] at h
      cases ht : t.isF with
      | true => rw [ht] at h; exact no l h
      | false =>
        rw [ht] at h
        simp only [cond_false] at h
        split at h
        · exact yes _ h
        · exact no _ h
        · cases h
  | .ob a b t, l, x, h, hs, hc => by
    simp only [Tree.runP] at h
    cases hl : Nat.beq a.length b.length with
    | false => rw [hl] at h; cases h
    | true =>
      rw [hl] at h
      obtain ⟨y, h1, rfl⟩ := Option.map_eq_some_iff.1 h
      obtain ⟨e1, e2⟩ := append_same (Nat.eq_of_beq_eq_true hl) hs
      subst e1
      have := Tree.runP_run (t := t) (x := y) h1 e2 hc
      show ifEq a a t.run none = _
      rw [ifEq_pos rfl]
      exact this
theorem Tree.run_of {α : Type} {t : Tree α} (l : List Bool) {cs : List Bool} {r : α} (h : (t.runP l).map (fun x => (x.cs, x.r)) = some (cs, r)) (hs : (t.runP l).map (·.as) = (t.runP l).map (·.bs)) (hc : allTrue cs = true) : t.run = some r := by
  obtain ⟨x, h1, h2⟩ := Option.map_eq_some_iff.1 h
  simp only [Prod.mk.injEq] at h2
  obtain ⟨rfl, rfl⟩ := h2
  rw [h1] at hs
  exact Tree.runP_run h1 (by simpa using hs) hc
def Tree.iteB {α : Type} (b c : Bool) (x y : Tree α) : Tree α := bif b then (bif c then x else y) else .ite c x y
theorem Tree.iteB_run {α : Type} (b c : Bool) (x y : Tree α) : (Tree.iteB b c x y).run = bif c then x.run else y.run := by
  cases b <;> cases c <;> rfl
theorem Tree.run_ofOpt {α : Type} (o : Option α) : (Tree.ofOpt o).run = o := by cases o <;> rfl
/-! ### Types of data -/
mutual
inductive Ty where
  | w (k : IntKind)
  | i (k : IntKind)
  | b
  | str
  | sl (ts : Tys)
inductive Tys where
  | nil
  | cons (t : Ty) (ts : Tys)
end
mutual
@[reducible] def Ty.den : Ty → Type
  | .w k => BitVec k.bits
  | .i _ => Int
  | .b => Bool
  | .str => ByteArray
  | .sl ts => List (Tys.den ts)
@[reducible] def Tys.den : Tys → Type
  | .nil => Unit
  | .cons t ts => Ty.den t × Tys.den ts
end
def Tys.len : Tys → Nat
  | .nil => 0
  | .cons _ ts => ts.len + 1
mutual
def Ty.eqb : Ty → Ty → Bool
  | .w k, .w k' => decide (k = k')
  | .i k, .i k' => decide (k = k')
  | .b, .b => true
  | .str, .str => true
  | .sl ts, .sl ts' => Tys.eqb ts ts'
  | _, _ => false
def Tys.eqb : Tys → Tys → Bool
  | .nil, .nil => true
  | .cons t ts, .cons t' ts' => Ty.eqb t t' && Tys.eqb ts ts'
  | _, _ => false
end
mutual
theorem Ty.eqb_eq : ∀ {t t' : Ty}, t.eqb t' = true → t = t'
  | .w k, .w k', h => by simp [Ty.eqb] at h; rw [h]
  | .i k, .i k', h => by simp [Ty.eqb] at h; rw [h]
  | .b, .b, _ => rfl
  | .str, .str, _ => rfl
  | .sl ts, .sl ts', h => by rw [Tys.eqb_eq (show ts.eqb ts' = true by simpa [Ty.eqb] using h)]
  | .w _, .i _, h => by simp [Ty.eqb] at h
  | .w _, .b, h => by simp [Ty.eqb] at h
  | .w _, .str, h => by simp [Ty.eqb] at h
  | .w _, .sl _, h => by simp [Ty.eqb] at h
  | .i _, .w _, h => by simp [Ty.eqb] at h
  | .i _, .b, h => by simp [Ty.eqb] at h
  | .i _, .str, h => by simp [Ty.eqb] at h
  | .i _, .sl _, h => by simp [Ty.eqb] at h
  | .b, .w _, h => by simp [Ty.eqb] at h
  | .b, .i _, h => by simp [Ty.eqb] at h
  | .b, .str, h => by simp [Ty.eqb] at h
  | .b, .sl _, h => by simp [Ty.eqb] at h
  | .str, .w _, h => by simp [Ty.eqb] at h
  | .str, .i _, h => by simp [Ty.eqb] at h
  | .str, .b, h => by simp [Ty.eqb] at h
  | .str, .sl _, h => by simp [Ty.eqb] at h
  | .sl _, .w _, h => by simp [Ty.eqb] at h
  | .sl _, .i _, h => by simp [Ty.eqb] at h
  | .sl _, .b, h => by simp [Ty.eqb] at h
  | .sl _, .str, h => by simp [Ty.eqb] at h
theorem Tys.eqb_eq : ∀ {t t' : Tys}, t.eqb t' = true → t = t'
  | .nil, .nil, _ => rfl
  | .cons t ts, .cons t' ts', h => by
    simp only [Tys.eqb, Bool.and_eq_true] at h
    rw [Ty.eqb_eq h.1, Tys.eqb_eq h.2]
  | .nil, .cons _ _, h => by simp [Tys.eqb] at h
  | .cons _ _, .nil, h => by simp [Tys.eqb] at h
end
def castD {ts ts' : Tys} (h : ts = ts') (x : ts.den) : ts'.den := h ▸ x
def castL {ts ts' : Tys} (h : ts = ts') (l : List ts.den) : List ts'.den := h ▸ l
def toL (ts' : Tys) {ts : Tys} (l : List ts.den) : Option (List ts'.den) := if h : ts.eqb ts' = true then some (castL (Tys.eqb_eq h) l) else none
def toD (ts' : Tys) {ts : Tys} (x : ts.den) : Option ts'.den := if h : ts.eqb ts' = true then some (castD (Tys.eqb_eq h) x) else none
def castW {k k' : IntKind} (h : k = k') (x : BitVec k.bits) : BitVec k'.bits := h ▸ x
/-! ### What data look like in memory -/
abbrev Frag := Nat → Nat → Option Value
def Frag.le (F F' : Frag) : Prop := ∀ b o v, F b o = some v → F' b o = some v
theorem Frag.le_refl (F : Frag) : F.le F := fun _ _ _ h => h
theorem Frag.le_trans {F G K : Frag} (h : F.le G) (k : G.le K) : F.le K := fun b o v e => k b o v (h b o v e)
def memF (w : World) : Frag := fun b o => w.cell? ⟨b, o, none⟩
mutual
def RepT (F : Frag) : (t : Ty) → t.den → Value → Prop
  | .w k, x, v => v = .int k x.toNat
  | .i k, n, v => v = .int k n
  | .b, x, v => v = .bool x
  | .str, s, v => v = .string s
  | .sl ts, l, v => ∃ a cap, v = .slice a l.length cap ∧ l.length ≤ cap ∧ cap ≤ maxLen ∧ (l ≠ [] → ∃ b o, a = some ⟨b, o, none⟩ ∧ ∀ i x, l[i]? = some x → RepC F F b (o + i * ts.len) ts x)
def RepC (G F : Frag) (b o : Nat) : (ts : Tys) → ts.den → Prop
  | .nil, _ => True
  | .cons t ts, x => (∃ v, G b o = some v ∧ RepT F t x.1 v) ∧ RepC G F b (o + 1) ts x.2
end
mutual
theorem RepT.mono {F F' : Frag} (hF : F.le F') : ∀ {t : Ty} {x : t.den} {v : Value}, RepT F t x v → RepT F' t x v
  | .w k, x, v, h => h
  | .i k, x, v, h => h
  | .b, x, v, h => h
  | .str, x, v, h => h
  | .sl ts, l, v, h => by
    simp only [RepT] at h ⊢
    obtain ⟨a, cap, h1, h2, h3, h4⟩ := h
    refine ⟨a, cap, h1, h2, h3, fun hl => ?_⟩
    obtain ⟨b, o, h5, h6⟩ := h4 hl
    exact ⟨b, o, h5, fun i x hx => RepC.mono hF hF (h6 i x hx)⟩
theorem RepC.mono {G G' F F' : Frag} (hG : G.le G') (hF : F.le F') : ∀ {ts : Tys} {b o : Nat} {x : ts.den}, RepC G F b o ts x → RepC G' F' b o ts x
  | .nil, b, o, x, h => by simp only [RepC]
  | .cons t ts, b, o, x, h => by
    simp only [RepC] at h ⊢
    obtain ⟨⟨v, h1, h2⟩, h3⟩ := h
    exact ⟨⟨v, hG _ _ _ h1, RepT.mono hF h2⟩, RepC.mono hG hF h3⟩
end
theorem RepC.congr {G G' F F' : Frag} (hF : F.le F') : ∀ {ts : Tys} {b o : Nat} {x : ts.den}, (∀ i, i < ts.len → ∀ v, G b (o + i) = some v → G' b (o + i) = some v) → RepC G F b o ts x → RepC G' F' b o ts x
  | .nil, b, o, x, _, h => by simp only [RepC]
  | .cons t ts, b, o, x, hG, h => by
    simp only [RepC] at h ⊢
    obtain ⟨⟨v, h1, h2⟩, h3⟩ := h
    refine ⟨⟨v, by simpa using hG 0 (by simp [Tys.len]) v (by simpa using h1), h2.mono hF⟩, RepC.congr hF (fun i hi v hv => ?_) h3⟩
    have := hG (i + 1) (by simp only [Tys.len]; omega) v (by rw [← hv]; congr 1; omega)
    rw [← this]; congr 1; omega
theorem RepT.one {F : Frag} : ∀ {t : Ty} {x : t.den} {v : Value}, RepT F t x v → v.oneCell' = true
  | .w k, x, v, h => by simp only [RepT] at h; subst h; rfl
  | .i k, x, v, h => by simp only [RepT] at h; subst h; rfl
  | .b, x, v, h => by simp only [RepT] at h; subst h; rfl
  | .str, x, v, h => by simp only [RepT] at h; subst h; rfl
  | .sl ts, l, v, h => by simp only [RepT] at h; obtain ⟨a, cap, rfl, _⟩ := h; rfl
/-! ### Cells, parts, values -/
structure Ld where
  b : Nat
  o : Nat
  hv : Value
abbrev Loc := Nat → Ld
inductive Cap where
  | v (x : Value)
  | w (k : IntKind) (x : BitVec k.bits)
  | p (j off : Nat)
  | h (j : Nat)
  | d (ts : Tys) (l : List ts.den)
  | q (ts : Tys) (x : ts.den)
  | y (i : Nat) (p : PV)
inductive Cell where
  | v (x : Value)
  | w (k : IntKind) (x : BitVec k.bits)
  | p (j off : Nat)
  | h (j : Nat)
  | d (ts : Tys) (l : List ts.den)
  | q (ts : Tys) (x : ts.den)
  | e (j base n sz idx off : Nat)
  | er (j sz idx off : Nat)
  | hs (j sz lo len : Nat) (mx : Option Nat)
  | s (j off sz len cap : Nat)
  | clo (f : FuncId) (caps : List Cap)
  | y (i : Nat) (p : PV)
def PV.cell : PV → Cell
  | .v x => .v x
  | .w k x => .w k x
def Cap.cell : Cap → Cell
  | .v x => .v x
  | .w k x => .w k x
  | .p j o => .p j o
  | .h j => .h j
  | .d ts l => .d ts l
  | .q ts x => .q ts x
  | .y i pv => .y i pv
def subHdr (hv : Value) (sz lo len : Nat) (mx : Option Nat) : Value := match hv with
  | .slice a _ cap => .slice (if mx.getD cap = lo then a else a.map (·.add (lo * sz))) len (mx.getD cap - lo)
  | _ => undef
def Cap.rep (F : Frag) (r : Loc) : Cap → Value → Prop
  | .v x, u => u = x
  | .w k x, u => u = .int k x.toNat
  | .p j o, u => u = .pointer (some ⟨(r j).b, (r j).o + o, none⟩)
  | .h j, u => u = (r j).hv ∧ u.oneCell' = true
  | .d ts l, u => RepT F (.sl ts) l u
  | .q ts x, u => ∃ b o, u = .pointer (some ⟨b, o, none⟩) ∧ RepC F F b o ts x
  | .y _ pv, u => u = pv.val
def fnO (g : FuncId) : FuncId := g % 1000000
def bdO (g : FuncId) : Nat := g / 1000000
def ifcB : Nat := 1000000000000
def isFn (g : FuncId) : Bool := Nat.blt g ifcB
def ifcT (g : FuncId) : TypeId := (g - ifcB) / 2
def ifcA (g : FuncId) : Bool := Nat.beq ((g - ifcB) % 2) 1
def cloV (g : FuncId) (vs : List Value) : Value := bif isFn g then .func (.func (fnO g)) (vs.take (bdO g)).toArray (vs.drop (bdO g)).toArray
  else .iface (ifcT g) (bif ifcA g then .agg vs.toArray else vs.headD (.tuple #[]))
theorem cloV_fn {g : FuncId} (h : isFn g = true) (vs : List Value) : cloV g vs = .func (.func (fnO g)) (vs.take (bdO g)).toArray (vs.drop (bdO g)).toArray := by
  unfold cloV; rw [h]; rfl
theorem cloV_ifc {g : FuncId} (h : isFn g = false) (vs : List Value) : cloV g vs = .iface (ifcT g) (bif ifcA g then .agg vs.toArray else vs.headD (.tuple #[])) := by
  unfold cloV; rw [h]; rfl
theorem cloV_one (g : FuncId) (vs : List Value) : (cloV g vs).oneCell' = true := by
  cases h : isFn g with
  | true => rw [cloV_fn h]; rfl
  | false => rw [cloV_ifc h]; rfl
def capsRep (F : Frag) (r : Loc) : List Cap → List Value → Prop
  | [], [] => True
  | c :: cs, v :: vs => c.rep F r v ∧ capsRep F r cs vs
  | _, _ => False
def Cell.rep (F : Frag) (r : Loc) : Cell → Value → Prop
  | .v x, u => u = x
  | .w k x, u => u = .int k x.toNat
  | .p j o, u => u = .pointer (some ⟨(r j).b, (r j).o + o, none⟩)
  | .h j, u => u = (r j).hv ∧ u.oneCell' = true
  | .d ts l, u => RepT F (.sl ts) l u
  | .q ts x, u => ∃ b o, u = .pointer (some ⟨b, o, none⟩) ∧ RepC F F b o ts x
  | .e j base n sz idx off, u => u = .pointer (some ⟨(r j).b, (r j).o + (base + idx * sz + off), none⟩) ∧ idx < n
  | .er j sz idx off, u => u = .pointer (some ⟨(r j).b, (r j).o + (idx * sz + off), none⟩) ∧ ∃ a n cap, (r j).hv = .slice a n cap ∧ idx < n
  | .hs j sz lo len mx, u => u = subHdr (r j).hv sz lo len mx ∧ u.oneCell' = true
  | .s j off _ len cap, u => u = .slice (some ⟨(r j).b, (r j).o + off, none⟩) len cap
  | .clo f caps, u => ∃ vs, capsRep F r caps vs ∧ u = cloV f vs
  | .y _ pv, u => u = pv.val
def cellsRep (F : Frag) (r : Loc) : List Cell → List Value → Prop
  | [], [] => True
  | c :: cs, v :: vs => c.rep F r v ∧ cellsRep F r cs vs
  | _, _ => False
inductive Part where
  | one (c : Cell)
  | many (l : List Cell)
def Part.rep (F : Frag) (r : Loc) : Part → Value → Prop
  | .one c, v => c.rep F r v
  | .many l, v => ∃ vs, cellsRep F r l vs ∧ v = .agg vs.toArray
def partsRep (F : Frag) (r : Loc) : List Part → List Value → Prop
  | [], [] => True
  | c :: cs, v :: vs => c.rep F r v ∧ partsRep F r cs vs
  | _, _ => False
inductive AV where
  | p (x : Part)
  | t (l : List Part)
def AV.rep (F : Frag) (r : Loc) : AV → Value → Prop
  | .p x, v => x.rep F r v
  | .t l, v => ∃ vs, partsRep F r l vs ∧ v = .tuple vs.toArray
@[reducible] def AV.c (x : Cell) : AV := .p (.one x)
@[reducible] def AV.b (x : Bool) : AV := .p (.one (.v (.bool x)))
/-! ### Scope: which objects a value names -/
def Cap.inn (D : Nat → Prop) : Cap → Prop
  | .p j _ => D j
  | .h j => D j
  | _ => True
def Cell.inn (D : Nat → Prop) : Cell → Prop
  | .p j _ => D j
  | .h j => D j
  | .e j _ _ _ _ _ => D j
  | .er j _ _ _ => D j
  | .hs j _ _ _ _ => D j
  | .s j _ _ _ _ => D j
  | .clo _ caps => ∀ c ∈ caps, c.inn D
  | _ => True
def Part.inn (D : Nat → Prop) : Part → Prop
  | .one c => c.inn D
  | .many l => ∀ c ∈ l, c.inn D
def AV.inn (D : Nat → Prop) : AV → Prop
  | .p x => x.inn D
  | .t l => ∀ x ∈ l, x.inn D
theorem Cap.inn_mono {D D' : Nat → Prop} (hD : ∀ j, D j → D' j) {c : Cap} (h : c.inn D) : c.inn D' := by
  cases c <;> first | trivial | exact hD _ h
theorem Cell.inn_mono {D D' : Nat → Prop} (hD : ∀ j, D j → D' j) {c : Cell} (h : c.inn D) : c.inn D' := by
  cases c <;> first | trivial | exact hD _ h | exact fun c hc => Cap.inn_mono hD (h c hc)
theorem Part.inn_mono {D D' : Nat → Prop} (hD : ∀ j, D j → D' j) {c : Part} (h : c.inn D) : c.inn D' := by
  cases c with
  | one c => exact Cell.inn_mono hD h
  | many l => exact fun c hc => Cell.inn_mono hD (h c hc)
theorem AV.inn_mono {D D' : Nat → Prop} (hD : ∀ j, D j → D' j) {c : AV} (h : c.inn D) : c.inn D' := by
  cases c with
  | p c => exact Part.inn_mono hD h
  | t l => exact fun c hc => Part.inn_mono hD (h c hc)
/-! ### Values stay what they are -/
def Loc.agree (D : Nat → Prop) (r r' : Loc) : Prop := ∀ j, D j → r' j = r j
section
variable {F F' : Frag} {r r' : Loc} {D : Nat → Prop} (hF : F.le F') (ha : Loc.agree D r r')
include hF ha
theorem Cap.rep_to {c : Cap} (hc : c.inn D) {u : Value} (g : c.rep F r u) : c.rep F' r' u := by
  cases c with
  | v x => exact g
  | w k x => exact g
  | p j o => simp only [Cap.rep, Cap.inn] at *; rw [ha _ hc]; exact g
  | h j => simp only [Cap.rep, Cap.inn] at *; rw [ha _ hc]; exact g
  | d ts l => exact RepT.mono hF g
  | q ts x => obtain ⟨b, o, h1, h2⟩ := g; exact ⟨b, o, h1, h2.mono hF hF⟩
  | y i p => exact g
theorem capsRep_to : ∀ {cs : List Cap} {vs : List Value}, (∀ c ∈ cs, c.inn D) → capsRep F r cs vs → capsRep F' r' cs vs
  | [], [], _, h => h
  | [], _ :: _, _, h => h.elim
  | _ :: _, [], _, h => h.elim
  | c :: cs, v :: vs, hc, h => ⟨Cap.rep_to hF ha (hc c List.mem_cons_self) h.1, capsRep_to (fun x hx => hc x (List.mem_cons_of_mem _ hx)) h.2⟩
theorem Cell.rep_to {c : Cell} (hc : c.inn D) {u : Value} (g : c.rep F r u) : c.rep F' r' u := by
  cases c with
  | v x => exact g
  | w k x => exact g
  | p j o => simp only [Cell.rep, Cell.inn] at *; rw [ha _ hc]; exact g
  | h j => simp only [Cell.rep, Cell.inn] at *; rw [ha _ hc]; exact g
  | d ts l => exact RepT.mono hF g
  | q ts x => obtain ⟨b, o, h1, h2⟩ := g; exact ⟨b, o, h1, h2.mono hF hF⟩
  | e j a b c f k => simp only [Cell.rep, Cell.inn] at *; rw [ha _ hc]; exact g
  | er j a b c => simp only [Cell.rep, Cell.inn] at *; rw [ha _ hc]; exact g
  | hs j a b c f => simp only [Cell.rep, Cell.inn] at *; rw [ha _ hc]; exact g
  | s j a b c f => simp only [Cell.rep, Cell.inn] at *; rw [ha _ hc]; exact g
  | clo f caps => obtain ⟨vs, h1, h2⟩ := g; exact ⟨vs, capsRep_to hF ha hc h1, h2⟩
  | y i p => exact g
theorem cellsRep_to : ∀ {cs : List Cell} {vs : List Value}, (∀ c ∈ cs, c.inn D) → cellsRep F r cs vs → cellsRep F' r' cs vs
  | [], [], _, h => h
  | [], _ :: _, _, h => h.elim
  | _ :: _, [], _, h => h.elim
  | c :: cs, v :: vs, hc, h => ⟨Cell.rep_to hF ha (hc c List.mem_cons_self) h.1, cellsRep_to (fun x hx => hc x (List.mem_cons_of_mem _ hx)) h.2⟩
theorem Part.rep_to {c : Part} (hc : c.inn D) {v : Value} (h : c.rep F r v) : c.rep F' r' v := by
  cases c with
  | one c => exact Cell.rep_to hF ha hc h
  | many l => obtain ⟨vs, h1, h2⟩ := h; exact ⟨vs, cellsRep_to hF ha hc h1, h2⟩
theorem partsRep_to : ∀ {cs : List Part} {vs : List Value}, (∀ c ∈ cs, c.inn D) → partsRep F r cs vs → partsRep F' r' cs vs
  | [], [], _, h => h
  | [], _ :: _, _, h => h.elim
  | _ :: _, [], _, h => h.elim
  | c :: cs, v :: vs, hc, h => ⟨Part.rep_to hF ha (hc c List.mem_cons_self) h.1, partsRep_to (fun x hx => hc x (List.mem_cons_of_mem _ hx)) h.2⟩
theorem AV.rep_to {c : AV} (hc : c.inn D) {v : Value} (h : c.rep F r v) : c.rep F' r' v := by
  cases c with
  | p c => exact Part.rep_to hF ha hc h
  | t l => obtain ⟨vs, h1, h2⟩ := h; exact ⟨vs, partsRep_to hF ha hc h1, h2⟩
end
/-! ### Lists of cells -/
section
variable {F : Frag} {r : Loc}
theorem cellsRep_length : ∀ {cs : List Cell} {vs : List Value}, cellsRep F r cs vs → vs.length = cs.length
  | [], [], _ => rfl
  | [], _ :: _, h => h.elim
  | _ :: _, [], h => h.elim
  | _ :: _, _ :: _, h => by simp [cellsRep_length h.2]
theorem cellsRep_get : ∀ {cs : List Cell} {vs : List Value}, cellsRep F r cs vs → ∀ (i : Nat) (c : Cell), cs[i]? = some c → ∃ v, vs[i]? = some v ∧ c.rep F r v
  | [], [], _, i, c, h => by simp at h
  | [], _ :: _, h, _, _, _ => h.elim
  | _ :: _, [], h, _, _, _ => h.elim
  | x :: cs, y :: vs, h, i, c, hi => by
    cases i with
    | zero => simp at hi; subst hi; exact ⟨y, rfl, h.1⟩
    | succ i => simpa using cellsRep_get h.2 i c (by simpa using hi)
theorem cellsRep_get' {cs : List Cell} {vs : List Value} (h : cellsRep F r cs vs) (i : Nat) (v : Value) (hi : vs[i]? = some v) : ∃ c, cs[i]? = some c ∧ c.rep F r v := by
  have hlt : i < cs.length := by have := (List.getElem?_eq_some_iff.1 hi).1; rw [cellsRep_length h] at this; exact this
  obtain ⟨v', hv', hr⟩ := cellsRep_get h i cs[i] (List.getElem?_eq_getElem hlt)
  rw [hi] at hv'; injection hv' with hv'; subst hv'
  exact ⟨_, List.getElem?_eq_getElem hlt, hr⟩
theorem cellsRep_of : ∀ {cs : List Cell} {vs : List Value}, vs.length = cs.length → (∀ (i : Nat) (c : Cell) (v : Value), cs[i]? = some c → vs[i]? = some v → c.rep F r v) → cellsRep F r cs vs
  | [], [], _, _ => trivial
  | [], _ :: _, h, _ => by simp at h
  | _ :: _, [], h, _ => by simp at h
  | c :: cs, v :: vs, h, hi => ⟨hi 0 c v rfl rfl, cellsRep_of (by simpa using h) fun i c v h1 h2 => hi (i + 1) c v (by simpa using h1) (by simpa using h2)⟩
theorem cellsRep_append : ∀ {cs cs' : List Cell} {vs vs' : List Value}, cellsRep F r cs vs → cellsRep F r cs' vs' → cellsRep F r (cs ++ cs') (vs ++ vs')
  | [], _, [], _, _, h => h
  | [], _, _ :: _, _, h, _ => h.elim
  | _ :: _, _, [], _, h, _ => h.elim
  | _ :: _, _, _ :: _, _, h, h' => ⟨h.1, cellsRep_append h.2 h'⟩
theorem cellsRep_drop : ∀ (n : Nat) {cs : List Cell} {vs : List Value}, cellsRep F r cs vs → cellsRep F r (cs.drop n) (vs.drop n)
  | 0, _, _, h => by simpa using h
  | n + 1, [], [], _ => by simp [cellsRep]
  | n + 1, [], _ :: _, h => h.elim
  | n + 1, _ :: _, [], h => h.elim
  | n + 1, _ :: _, _ :: _, h => by simpa using cellsRep_drop n h.2
theorem cellsRep_take : ∀ (n : Nat) {cs : List Cell} {vs : List Value}, cellsRep F r cs vs → cellsRep F r (cs.take n) (vs.take n)
  | 0, _, _, _ => by simp [cellsRep]
  | n + 1, [], [], _ => by simp [cellsRep]
  | n + 1, [], _ :: _, h => h.elim
  | n + 1, _ :: _, [], h => h.elim
  | n + 1, _ :: _, _ :: _, h => by simpa [cellsRep] using ⟨h.1, cellsRep_take n h.2⟩
theorem partsRep_length : ∀ {cs : List Part} {vs : List Value}, partsRep F r cs vs → vs.length = cs.length
  | [], [], _ => rfl
  | [], _ :: _, h => h.elim
  | _ :: _, [], h => h.elim
  | _ :: _, _ :: _, h => by simp [partsRep_length h.2]
theorem partsRep_get : ∀ {cs : List Part} {vs : List Value}, partsRep F r cs vs → ∀ (i : Nat) (c : Part), cs[i]? = some c → ∃ v, vs[i]? = some v ∧ c.rep F r v
  | [], [], _, i, c, h => by simp at h
  | [], _ :: _, h, _, _, _ => h.elim
  | _ :: _, [], h, _, _, _ => h.elim
  | x :: cs, y :: vs, h, i, c, hi => by
    cases i with
    | zero => simp at hi; subst hi; exact ⟨y, rfl, h.1⟩
    | succ i => simpa using partsRep_get h.2 i c (by simpa using hi)
end
/-! ### Plain values -/
def Cell.toV : Cell → Option Value
  | .v x => some x
  | .clo f [] => some (cloV f [])
  | .w k x => some (.int k x.toNat)
  | _ => none
def allV : List Cell → Option (List Value)
  | [] => some []
  | c :: l => match c.toV, allV l with
    | some v, some vs => some (v :: vs)
    | _, _ => none
def Part.toV : Part → Option Value
  | .one c => c.toV
  | .many l => match allV l with
    | some vs => some (.agg vs.toArray)
    | none => none
def allP : List Part → Option (List Value)
  | [] => some []
  | c :: l => match c.toV, allP l with
    | some v, some vs => some (v :: vs)
    | _, _ => none
def AV.toV : AV → Option Value
  | .p x => x.toV
  | .t l => match allP l with
    | some vs => some (.tuple vs.toArray)
    | none => none
section
variable {F : Frag} {r : Loc}
theorem Cell.rep_toV {c : Cell} {v u : Value} (h : c.toV = some v) (hr : c.rep F r u) : u = v := by
  cases c <;> simp only [Cell.toV, Cell.rep] at * <;> try (cases h)
  · exact hr
  · exact hr
  · rename_i f caps
    cases caps with
    | nil =>
      injection h with h; subst h
      obtain ⟨vs, h1, h2⟩ := hr
      cases vs with
      | nil => simpa using h2
      | cons a b => exact h1.elim
    | cons a b => cases h
theorem cellsRep_toV : ∀ {l : List Cell} {vs us : List Value}, allV l = some vs → cellsRep F r l us → us = vs
  | [], vs, [], h, _ => by simp [allV] at h; exact h.symm
  | [], _, _ :: _, _, h => h.elim
  | _ :: _, _, [], _, h => h.elim
  | c :: l, vs, u :: us, h, hr => by
    simp only [allV] at h
    split at h
    · rename_i v vs' hv hvs
      injection h with h; subst h
      rw [Cell.rep_toV hv hr.1, cellsRep_toV hvs hr.2]
    · cases h
theorem Part.rep_toV {c : Part} {v u : Value} (h : c.toV = some v) (hr : c.rep F r u) : u = v := by
  cases c with
  | one c => exact Cell.rep_toV h hr
  | many l =>
    simp only [Part.toV] at h
    split at h
    · rename_i vs hvs
      injection h with h; subst h
      obtain ⟨us, h1, rfl⟩ := hr
      rw [cellsRep_toV hvs h1]
    · cases h
theorem partsRep_toV : ∀ {l : List Part} {vs us : List Value}, allP l = some vs → partsRep F r l us → us = vs
  | [], vs, [], h, _ => by simp [allP] at h; exact h.symm
  | [], _, _ :: _, _, h => h.elim
  | _ :: _, _, [], _, h => h.elim
  | c :: l, vs, u :: us, h, hr => by
    simp only [allP] at h
    split at h
    · rename_i v vs' hv hvs
      injection h with h; subst h
      rw [Part.rep_toV hv hr.1, partsRep_toV hvs hr.2]
    · cases h
theorem AV.rep_toV {c : AV} {v u : Value} (h : c.toV = some v) (hr : c.rep F r u) : u = v := by
  cases c with
  | p c => exact Part.rep_toV h hr
  | t l =>
    simp only [AV.toV] at h
    split at h
    · rename_i vs hvs
      injection h with h; subst h
      obtain ⟨us, h1, rfl⟩ := hr
      rw [partsRep_toV hvs h1]
    · cases h
end
/-! ### Constants: the unsigned numbers as bit vectors -/
def cellC : Value → Cell
  | .int k n => bif !k.signed && (decide (0 ≤ n) && Nat.blt n.toNat (2 ^ k.bits)) then .w k (BitVec.ofInt k.bits n) else .v (.int k n)
  | v => .v v
theorem cellC_rep (F : Frag) (r : Loc) (v : Value) : (cellC v).rep F r v := by
  cases v with
  | int k n =>
    simp only [cellC]
    cases hb : (!k.signed && (decide (0 ≤ n) && Nat.blt n.toNat (2 ^ k.bits))) with
    | false => exact rfl
    | true =>
      simp only [Bool.and_eq_true, Bool.not_eq_true', decide_eq_true_eq] at hb
      obtain ⟨_, h0, h1⟩ := hb
      have h2 : n.toNat < 2 ^ k.bits := Nat.le_of_ble_eq_true h1
      simp only [cond_true, Cell.rep]
      congr 1
      obtain ⟨m, rfl⟩ := Int.eq_ofNat_of_zero_le h0
      rw [BitVec.ofInt_natCast, BitVec.toNat_ofNat]
      have : m % 2 ^ k.bits = m := Nat.mod_eq_of_lt (by simpa using h2)
      rw [this]
  | _ => exact rfl
theorem cellC_inn (D : Nat → Prop) (v : Value) : (cellC v).inn D := by
  cases v with
  | int k m =>
    simp only [cellC]
    cases (!k.signed && (decide (0 ≤ m) && Nat.blt m.toNat (2 ^ k.bits))) <;> trivial
  | _ => trivial
def kCells : List Value → List Cell
  | [] => []
  | v :: l => cellC v :: kCells l
def ofK1 : Value → Part
  | .agg cs => .many (kCells cs.toList)
  | v => .one (cellC v)
def ofK : Value → AV
  | .tuple vs => .t (vs.toList.map ofK1)
  | v => .p (ofK1 v)
theorem kCells_rep (F : Frag) (r : Loc) : ∀ l : List Value, cellsRep F r (kCells l) l
  | [] => trivial
  | v :: l => ⟨cellC_rep F r v, kCells_rep F r l⟩
theorem ofK1_rep (F : Frag) (r : Loc) (v : Value) : (ofK1 v).rep F r v := by
  cases v with
  | agg cs => exact ⟨cs.toList, kCells_rep F r _, by simp⟩
  | int k m => exact cellC_rep F r (.int k m)
  | _ => exact rfl
theorem ofK_rep (F : Frag) (r : Loc) (v : Value) : (ofK v).rep F r v := by
  cases v with
  | tuple vs =>
    have h : ∀ l : List Value, partsRep F r (List.map ofK1 l) l := by
      intro l
      induction l with
      | nil => trivial
      | cons x l ih => exact ⟨ofK1_rep F r x, ih⟩
    exact ⟨vs.toList, h _, by simp⟩
  | agg cs => exact ofK1_rep F r (.agg cs)
  | int k m => exact ofK1_rep F r (.int k m)
  | _ => exact rfl
theorem kCells_inn (D : Nat → Prop) : ∀ (l : List Value), ∀ c ∈ kCells l, c.inn D
  | [], c, h => by cases h
  | v :: l, c, h => by
    simp only [kCells, List.mem_cons] at h
    rcases h with rfl | h
    · exact cellC_inn D v
    · exact kCells_inn D l c h
theorem ofK1_inn (D : Nat → Prop) (v : Value) : (ofK1 v).inn D := by
  cases v with
  | agg cs => exact kCells_inn D cs.toList
  | int k m => exact cellC_inn D (.int k m)
  | _ => trivial
theorem ofK_inn (D : Nat → Prop) (v : Value) : (ofK v).inn D := by
  cases v with
  | tuple vs =>
    intro x hx
    obtain ⟨y, _, rfl⟩ := List.mem_map.1 hx
    exact ofK1_inn D y
  | agg cs => exact ofK1_inn D (.agg cs)
  | int k m => exact ofK1_inn D (.int k m)
  | _ => trivial
/-! ### Pure computations -/
def pureSem {α : Type} (P : Program) : Sem α → Option α
  | .pure a => some a
  | .program k => pureSem P (k P)
  | _ => none
theorem pureSem_run {α : Type} {P : Program} : ∀ {s : Sem α} {a : α}, pureSem P s = some a → ∀ w, s.run P w = .ok a w
  | .pure a, b, h, w => by simp [pureSem] at h; subst h; rfl
  | .program k, b, h, w => by simp only [pureSem] at h; exact pureSem_run h w
  | .load .., _, h, _ => by cases h
  | .store .., _, h, _ => by cases h
  | .new .., _, h, _ => by cases h
  | .shape .., _, h, _ => by cases h
  | .freeze .., _, h, _ => by cases h
  | .frozen .., _, h, _ => by cases h
  | .getObj .., _, h, _ => by cases h
  | .setObj .., _, h, _ => by cases h
  | .choose .., _, h, _ => by cases h
  | .sys .., _, h, _ => by cases h
  | .mark .., _, h, _ => by cases h
  | .halt .., _, h, _ => by cases h
mutual
def Ty.dflt : (t : Ty) → t.den
  | .w k => 0#k.bits
  | .i _ => (0 : Int)
  | .b => false
  | .str => ByteArray.empty
  | .sl _ => []
def Tys.dflt : (ts : Tys) → ts.den
  | .nil => ()
  | .cons t ts => (t.dflt, ts.dflt)
end
/-! ### Data and cells -/
def cellOf : (t : Ty) → t.den → Cell
  | .w k, x => .w k x
  | .i k, n => .v (.int k n)
  | .b, x => .v (.bool x)
  | .str, s => .v (.string s)
  | .sl ts, l => .d ts l
def cellsOf : (ts : Tys) → ts.den → List Cell
  | .nil, _ => []
  | .cons t ts, x => cellOf t x.1 :: cellsOf ts x.2
theorem cellOf_rep {F : Frag} {r : Loc} : ∀ {t : Ty} {x : t.den} {v : Value}, RepT F t x v → (cellOf t x).rep F r v
  | .w _, _, _, h => h
  | .i _, _, _, h => h
  | .b, _, _, h => h
  | .str, _, _, h => h
  | .sl _, _, _, h => h
theorem cellOf_inn (D : Nat → Prop) : ∀ (t : Ty) (x : t.den), (cellOf t x).inn D
  | .w _, _ => trivial
  | .i _, _ => trivial
  | .b, _ => trivial
  | .str, _ => trivial
  | .sl _, _ => trivial
theorem cellsOf_inn (D : Nat → Prop) : ∀ (ts : Tys) (x : ts.den), ∀ c ∈ cellsOf ts x, c.inn D
  | .nil, _, c, h => by simp [cellsOf] at h
  | .cons t ts, x, c, h => by
    simp only [cellsOf, List.mem_cons] at h
    rcases h with rfl | h
    · exact cellOf_inn D t x.1
    · exact cellsOf_inn D ts x.2 c h
theorem cellsOf_length : ∀ (ts : Tys) (x : ts.den), (cellsOf ts x).length = ts.len
  | .nil, _ => rfl
  | .cons t ts, x => by simp [cellsOf, Tys.len, cellsOf_length ts x.2]
theorem cellsOf_rep {G F : Frag} {r : Loc} {b : Nat} : ∀ {ts : Tys} {o : Nat} {x : ts.den}, RepC G F b o ts x →
    ∃ vs : List Value, vs.length = ts.len ∧ (∀ i v, vs[i]? = some v → G b (o + i) = some v) ∧ cellsRep F r (cellsOf ts x) vs ∧ ∀ v ∈ vs, v.oneCell' = true
  | .nil, o, x, _ => ⟨[], rfl, fun i v h => by simp at h, trivial, fun v h => by cases h⟩
  | .cons t ts, o, x, h => by
    simp only [RepC] at h
    obtain ⟨⟨v, h1, h2⟩, h3⟩ := h
    obtain ⟨vs, g1, g2, g3, g4⟩ := cellsOf_rep (r := r) h3
    refine ⟨v :: vs, by simp [Tys.len, g1], fun i u hu => ?_, ⟨cellOf_rep h2, g3⟩, fun u hu => ?_⟩
    · cases i with
      | zero => simp at hu; subst hu; exact h1
      | succ i =>
        have := g2 i u (by simpa using hu)
        rw [← this]; congr 1; omega
    · rcases List.mem_cons.1 hu with rfl | hu
      · exact h2.one
      · exact g4 u hu
end Go.Sz
namespace Go.Sz
open Go Go.RowKit
set_option linter.unusedVariables false
set_option linter.unusedSimpArgs false
set_option linter.constructorNameAsVariable false
/-! ### What has turned -/
structure Fr (S : Nat → Nat → Prop) (w w' : World) : Prop where
  os : w'.os = w.os
  tape : w'.tape = w.tape
  output : w'.output = w.output
  size : w.heap.size ≤ w'.heap.size
  cell : ∀ b o, b < w.heap.size → ¬ S b o → w'.cell? ⟨b, o, none⟩ = w.cell? ⟨b, o, none⟩
  frozen : ∀ b o, b < w.heap.size → w'.frozen? ⟨b, o, none⟩ = w.frozen? ⟨b, o, none⟩
  block : ∀ b, b < w.heap.size → (∀ o, ¬ S b o) → w'.heap[b]? = w.heap[b]?
theorem Fr.refl (S : Nat → Nat → Prop) (w : World) : Fr S w w := ⟨rfl, rfl, rfl, Nat.le_refl _, fun _ _ _ _ => rfl, fun _ _ _ => rfl, fun _ _ _ => rfl⟩
theorem Fr.trans {S S' : Nat → Nat → Prop} {w w1 w2 : World} (h : Fr S w w1) (k : Fr S' w1 w2) (hS : ∀ b o, b < w.heap.size → S' b o → S b o) : Fr S w w2 where
  os := k.os.trans h.os
  tape := k.tape.trans h.tape
  output := k.output.trans h.output
  size := Nat.le_trans h.size k.size
  cell b o hb hn := (k.cell b o (Nat.lt_of_lt_of_le hb h.size) (fun hs => hn (hS b o hb hs))).trans (h.cell b o hb hn)
  frozen b o hb := (k.frozen b o (Nat.lt_of_lt_of_le hb h.size)).trans (h.frozen b o hb)
  block b hb hn := (k.block b (Nat.lt_of_lt_of_le hb h.size) (fun o hs => hn o (hS b o hb hs))).trans (h.block b hb hn)
theorem Fr.mono {S S' : Nat → Nat → Prop} {w w1 : World} (h : Fr S w w1) (hS : ∀ b o, b < w.heap.size → S b o → S' b o) : Fr S' w w1 :=
  ⟨h.os, h.tape, h.output, h.size, fun b o hb hn => h.cell b o hb fun hs => hn (hS b o hb hs), h.frozen, fun b hb hn => h.block b hb fun o hs => hn o (hS b o hb hs)⟩
theorem Fr.of_below {w w' : World} (h : Below w.heap.size w w') (S : Nat → Nat → Prop) : Fr S w w' :=
  ⟨h.os, h.tape, h.output, h.size, fun b o hb _ => h.cell (p := ⟨b, o, none⟩) hb, fun b o hb => h.frozen (p := ⟨b, o, none⟩) hb, fun b hb _ => h.block b hb⟩
theorem Fr.below {S : Nat → Nat → Prop} {w w' : World} (h : Fr S w w') (hS : ∀ b o, ¬ S b o) : Below w.heap.size w w' :=
  ⟨h.os, h.tape, h.output, h.size, fun k hk => h.block k hk (hS k)⟩
theorem Fr.drew {S : Nat → Nat → Prop} {w w' : World} (h : Fr S w w') : Fr S w w'.drew :=
  ⟨h.os, h.tape, h.output, h.size, h.cell, h.frozen, h.block⟩
/-! ### Objects -/
inductive Vt where
  | one (t : Ty)
  | many (ts : Tys)
@[reducible] def Vt.den : Vt → Type
  | .one t => t.den
  | .many ts => ts.den
def RepL (F : Frag) : (ts : Tys) → ts.den → List Value → Prop
  | .nil, _, [] => True
  | .cons t ts, x, v :: vs => RepT F t x.1 v ∧ RepL F ts x.2 vs
  | _, _, _ => False
def RepV (F : Frag) : (t : Vt) → t.den → Value → Prop
  | .one t, x, v => RepT F t x v
  | .many ts, x, v => ∃ vs, RepL F ts x vs ∧ v = .agg vs.toArray
theorem RepL.mono {F F' : Frag} (hF : F.le F') : ∀ {ts : Tys} {x : ts.den} {vs : List Value}, RepL F ts x vs → RepL F' ts x vs
  | .nil, _, [], _ => trivial
  | .nil, _, _ :: _, h => h.elim
  | .cons t ts, x, v :: vs, h => ⟨h.1.mono hF, RepL.mono hF h.2⟩
  | .cons t ts, x, [], h => h.elim
theorem RepV.mono {F F' : Frag} (hF : F.le F') {t : Vt} {x : t.den} {v : Value} (h : RepV F t x v) : RepV F' t x v := by
  cases t with
  | one t => exact RepT.mono hF h
  | many ts => obtain ⟨vs, h1, h2⟩ := h; exact ⟨vs, h1.mono hF, h2⟩
inductive Ob where
  | lit (l : List Cell)
  | row (ts : Tys) (l : List ts.den)
  | frz (ts : Tys) (l : List ts.den)
  | mp (kt : Ty) (vt : Vt) (m : List (kt.den × vt.den))
  | dead
  | lr (sz n : Nat) (l : List Cell)
  | cm (es : List (Value × Part))
def Ob.foot (d : Ld) : Ob → Nat → Nat → Prop
  | .lit l, b, o => b = d.b ∧ d.o ≤ o ∧ o < d.o + l.length
  | .row ts _, b, o => ∃ n cap, d.hv = .slice (some ⟨d.b, d.o, none⟩) n cap ∧ b = d.b ∧ d.o ≤ o ∧ o < d.o + cap * ts.len
  | .mp .., b, _ => b = d.b
  | .lr sz _ _, b, o => ∃ n cap, d.hv = .slice (some ⟨d.b, d.o, none⟩) n cap ∧ b = d.b ∧ d.o ≤ o ∧ o < d.o + cap * sz
  | .cm _, b, _ => b = d.b
  | _, _, _ => False
def Ob.inn (D : Nat → Prop) : Ob → Prop
  | .lit l => ∀ c ∈ l, c.inn D
  | .lr _ _ l => ∀ c ∈ l, c.inn D
  | .cm es => ∀ x ∈ es, x.2.inn D
  | _ => True
def entriesRep (F : Frag) (kt : Ty) (vt : Vt) : List (kt.den × vt.den) → List MapEntry → Prop
  | [], [] => True
  | x :: m, e :: es => RepT F kt x.1 e.key ∧ RepV F vt x.2 e.val ∧ entriesRep F kt vt m es
  | _, _ => False
def centries (F : Frag) (r : Loc) : List (Value × Part) → List MapEntry → Prop
  | [], [] => True
  | x :: m, e :: es => e.key = x.1 ∧ x.2.rep F r e.val ∧ centries F r m es
  | _, _ => False
theorem centries_to {F F' : Frag} {r r' : Loc} {D : Nat → Prop} (hF : F.le F') (ha : Loc.agree D r r') : ∀ {m : List (Value × Part)} {es : List MapEntry}, (∀ x ∈ m, x.2.inn D) → centries F r m es → centries F' r' m es
  | [], [], _, h => h
  | [], _ :: _, _, h => h.elim
  | _ :: _, [], _, h => h.elim
  | x :: m, e :: es, hi, h => ⟨h.1, Part.rep_to hF ha (hi x List.mem_cons_self) h.2.1, centries_to hF ha (fun y hy => hi y (List.mem_cons_of_mem _ hy)) h.2.2⟩
theorem entriesRep.mono {F F' : Frag} (hF : F.le F') {kt : Ty} {vt : Vt} : ∀ {m : List (kt.den × vt.den)} {es : List MapEntry}, entriesRep F kt vt m es → entriesRep F' kt vt m es
  | [], [], _ => trivial
  | [], _ :: _, h => h.elim
  | _ :: _, [], h => h.elim
  | _ :: _, _ :: _, h => ⟨h.1.mono hF, h.2.1.mono hF, h.2.2.mono hF⟩
def ObIs (F : Frag) (r : Loc) (d : Ld) (w : World) : Ob → Prop
  | .lit l => ∃ vs, cellsRep F r l vs ∧ w.rangeAt d.b d.o vs ∧ w.there d.b d.o l.length ∧ (∀ v ∈ vs, v.oneCell' = true)
  | .row ts l => (d.hv = .slice none 0 0 ∧ l = []) ∨
      ∃ cap, d.hv = .slice (some ⟨d.b, d.o, none⟩) l.length cap ∧ l.length ≤ cap ∧ cap ≤ maxLen ∧ w.there d.b d.o (cap * ts.len) ∧ ∀ i x, l[i]? = some x → RepC (memF w) F d.b (d.o + i * ts.len) ts x
  | .frz ts l => RepT F (.sl ts) l d.hv
  | .mp kt vt m => d.hv = .map (some d.b) ∧ ∃ es clock, w.heap[d.b]? = some (.map es clock) ∧ entriesRep F kt vt m es.toList ∧ es.toList.Pairwise (fun x y => x.born < y.born) ∧ ∀ e ∈ es.toList, e.born < clock
  | .dead => True
  | .lr sz n l => (d.hv = .slice none 0 0 ∧ n = 0 ∧ l = []) ∨
      ∃ cap vs, d.hv = .slice (some ⟨d.b, d.o, none⟩) n cap ∧ l.length = n * sz ∧ n ≤ cap ∧ cap ≤ maxLen ∧ w.there d.b d.o (cap * sz) ∧ cellsRep F r l vs ∧ w.rangeAt d.b d.o vs ∧ (∀ v ∈ vs, v.oneCell' = true)
  | .cm m => d.hv = .map (some d.b) ∧ ∃ es clock, w.heap[d.b]? = some (.map es clock) ∧ centries F r m es.toList ∧ es.toList.Pairwise (fun x y => x.born < y.born) ∧ ∀ e ∈ es.toList, e.born < clock
abbrev Hf := Nat → Option Ob
structure Mem (w0 : World) (S : Nat → Nat → Prop) (R0 : Frag) (D : Nat → Prop) (H : Hf) (F : Frag) (r : Loc) (w : World) : Prop where
  obs : ∀ j ob, H j = some ob → ObIs F r (r j) w ob
  dom : ∀ j ob, H j = some ob → D j
  scp : ∀ j ob, H j = some ob → ob.inn D
  disj : ∀ j j' ob ob' b o, H j = some ob → H j' = some ob' → j ≠ j' → ob.foot (r j) b o → ob'.foot (r j') b o → False
  fin : ∀ b o v, F b o = some v → w.cell? ⟨b, o, none⟩ = some v
  fown : ∀ b o v j ob, F b o = some v → H j = some ob → ob.foot (r j) b o → False
  frame : Fr S w0 w
  fresh : ∀ j ob b o, H j = some ob → ob.foot (r j) b o → w0.heap.size ≤ b ∨ S b o
  base : R0.le F
  prov : ∀ b o v, F b o = some v → R0 b o = some v ∨ S b o ∨ w0.heap.size ≤ b
theorem Frag.le.trans' {F G K : Frag} (h : F.le G) (k : G.le K) : F.le K := Frag.le_trans h k
theorem World.cell_lt (w : World) {b o : Nat} {v : Value} (h : w.cell? ⟨b, o, none⟩ = some v) : b < w.heap.size := World.block_lt_of_cell? w ⟨b, o, none⟩ h
theorem ObIs.lt {F : Frag} {r : Loc} {d : Ld} {w : World} {ob : Ob} (h : ObIs F r d w ob) {b o : Nat} (hf : ob.foot d b o) : b < w.heap.size := by
  cases ob with
  | lit l =>
    obtain ⟨vs, _, _, h3, _⟩ := h
    obtain ⟨rfl, h1, h2⟩ := hf
    have h4 := (h3 (o - d.o) (by omega)).1
    cases hc : w.cell? ⟨d.b, d.o + (o - d.o), none⟩ with
    | none => rw [hc] at h4; cases h4
    | some v => exact World.cell_lt w hc
  | row ts l =>
    obtain ⟨n, cap, e, rfl, h1, h2⟩ := hf
    rcases h with ⟨h, _⟩ | ⟨cap', h, _, _, h3, _⟩
    · rw [h] at e; cases e
    · rw [h] at e; injection e with _ _ e; subst e
      have h4 := (h3 (o - d.o) (by omega)).1
      cases hc : w.cell? ⟨d.b, d.o + (o - d.o), none⟩ with
      | none => rw [hc] at h4; cases h4
      | some v => exact World.cell_lt w hc
  | frz => exact hf.elim
  | dead => exact hf.elim
  | mp kt vt m =>
    obtain ⟨_, es, clock, h, _⟩ := h
    simp only [Ob.foot] at hf
    subst hf
    exact (Array.getElem?_eq_some_iff.1 h).1
  | cm m =>
    obtain ⟨_, es, clock, h, _⟩ := h
    simp only [Ob.foot] at hf
    subst hf
    exact (Array.getElem?_eq_some_iff.1 h).1
  | lr sz m l =>
    obtain ⟨n, cap, e, rfl, h1, h2⟩ := hf
    rcases h with ⟨h, _⟩ | ⟨cap', vs, h, _, _, _, h3, _⟩
    · rw [h] at e; cases e
    · rw [h] at e; injection e with _ _ e; subst e
      have h4 := (h3 (o - d.o) (by omega)).1
      cases hc : w.cell? ⟨d.b, d.o + (o - d.o), none⟩ with
      | none => rw [hc] at h4; cases h4
      | some v => exact World.cell_lt w hc
theorem ObIs.stay {F F' : Frag} {r r' : Loc} {D : Nat → Prop} {w w' : World} {S : Nat → Nat → Prop} {ob : Ob} {d : Ld} (h : ObIs F r d w ob) (hF : F.le F') (ha : Loc.agree D r r') (hs : ob.inn D)
    (hf : Fr S w w') (hS : ∀ b o, ob.foot d b o → ¬ S b o) : ObIs F' r' d w' ob := by
  have hlt : ∀ b o, ob.foot d b o → b < w.heap.size := fun b o hh => h.lt hh
  cases ob with
  | lit l =>
    obtain ⟨vs, h1, h2, h3, h4⟩ := h
    have hl := cellsRep_length h1
    refine ⟨vs, cellsRep_to hF ha hs h1, fun i v hv => ?_, fun i hi => ?_, h4⟩
    · have hi : i < l.length := by have := (List.getElem?_eq_some_iff.1 hv).1; omega
      have hfo : (Ob.lit l).foot d d.b (d.o + i) := ⟨rfl, by omega, by omega⟩
      rw [hf.cell _ _ (hlt _ _ hfo) (hS _ _ hfo)]
      exact h2 i v hv
    · have hfo : (Ob.lit l).foot d d.b (d.o + i) := ⟨rfl, by omega, by omega⟩
      rw [hf.cell _ _ (hlt _ _ hfo) (hS _ _ hfo), hf.frozen _ _ (hlt _ _ hfo)]
      exact h3 i hi
  | row ts l =>
    rcases h with h | ⟨cap, h1, h2, h3, h4, h5⟩
    · exact .inl h
    · refine .inr ⟨cap, h1, h2, h3, fun i hi => ?_, fun i x hx => ?_⟩
      · have hfo : (Ob.row ts l).foot d d.b (d.o + i) := ⟨_, _, h1, rfl, by omega, by omega⟩
        rw [hf.cell _ _ (hlt _ _ hfo) (hS _ _ hfo), hf.frozen _ _ (hlt _ _ hfo)]
        exact h4 i hi
      · refine RepC.congr hF (fun k hk v hv => ?_) (h5 i x hx)
        have hi : i < l.length := (List.getElem?_eq_some_iff.1 hx).1
        have hb : d.o + i * ts.len + k < d.o + cap * ts.len := by
          have : (i + 1) * ts.len ≤ cap * ts.len := Nat.mul_le_mul_right _ (by omega)
          rw [Nat.add_mul] at this; omega
        have hfo : (Ob.row ts l).foot d d.b (d.o + i * ts.len + k) := ⟨_, _, h1, rfl, by omega, hb⟩
        unfold memF at hv ⊢
        rw [hf.cell _ _ (hlt _ _ hfo) (hS _ _ hfo)]
        exact hv
  | frz ts l => exact RepT.mono hF h
  | dead => trivial
  | mp kt vt m =>
    obtain ⟨h0, es, clock, h1, h2, h3, h4⟩ := h
    refine ⟨h0, es, clock, ?_, h2.mono hF, h3, h4⟩
    rw [hf.block d.b (hlt d.b 0 rfl) (fun o => hS _ _ rfl)]
    exact h1
  | cm m =>
    obtain ⟨h0, es, clock, h1, h2, h3, h4⟩ := h
    refine ⟨h0, es, clock, ?_, centries_to hF ha hs h2, h3, h4⟩
    rw [hf.block d.b (hlt d.b 0 rfl) (fun o => hS _ _ rfl)]
    exact h1
  | lr sz m l =>
    rcases h with h | ⟨cap, vs, h1, hl, h2, h3, h4, h5, h6, h7⟩
    · exact .inl h
    · have hvl := cellsRep_length h5
      have hle : m * sz ≤ cap * sz := Nat.mul_le_mul_right _ h2
      refine .inr ⟨cap, vs, h1, hl, h2, h3, fun i hi => ?_, cellsRep_to hF ha hs h5, fun i v hv => ?_, h7⟩
      · have hfo : (Ob.lr sz m l).foot d d.b (d.o + i) := ⟨_, _, h1, rfl, by omega, by omega⟩
        rw [hf.cell _ _ (hlt _ _ hfo) (hS _ _ hfo), hf.frozen _ _ (hlt _ _ hfo)]
        exact h4 i hi
      · have hi := (List.getElem?_eq_some_iff.1 hv).1
        have hfo : (Ob.lr sz m l).foot d d.b (d.o + i) := ⟨_, _, h1, rfl, by omega, by omega⟩
        rw [hf.cell _ _ (hlt _ _ hfo) (hS _ _ hfo)]
        exact h6 i v hv
def TFoot (T : Nat → Prop) (H : Hf) (r : Loc) (b o : Nat) : Prop := ∃ j ob, T j ∧ H j = some ob ∧ ob.foot (r j) b o
section
variable {w0 : World} {S : Nat → Nat → Prop} {R0 : Frag} {D : Nat → Prop} {H : Hf} {F : Frag} {r : Loc} {w : World}
theorem Mem.drew (h : Mem w0 S R0 D H F r w) : Mem w0 S R0 D H F r w.drew :=
  ⟨fun j ob hj => by have := h.obs j ob hj; cases ob <;> exact this, h.dom, h.scp, h.disj, h.fin, h.fown, h.frame.drew, h.fresh, h.base, h.prov⟩
theorem Mem.step (h : Mem w0 S R0 D H F r w) {T : Nat → Prop} {D' : Nat → Prop} {H' : Hf} {F' : Frag} {r' : Loc} {w' : World}
    (hD : ∀ j, D j → D' j) (hr : Loc.agree D r r')
    (hH : ∀ j ob, ¬ T j → H' j = some ob → H j = some ob)
    (hT : ∀ j ob, T j → H' j = some ob → D' j ∧ ObIs F' r' (r' j) w' ob ∧ ob.inn D')
    (hfoot : ∀ j ob b o, T j → H' j = some ob → ob.foot (r' j) b o → TFoot T H r b o ∨ w.heap.size ≤ b)
    (hdis : ∀ j j' ob ob' b o, T j → T j' → H' j = some ob → H' j' = some ob' → j ≠ j' → ob.foot (r' j) b o → ob'.foot (r' j') b o → False)
    (hf : Fr (TFoot T H r) w w') (hF : F.le F')
    (hnew : ∀ b o v, F' b o = some v → F b o = some v ∨ (w'.cell? ⟨b, o, none⟩ = some v ∧ (TFoot T H r b o ∨ w.heap.size ≤ b) ∧ ∀ j ob, T j → H' j = some ob → ob.foot (r' j) b o → False)) :
    Mem w0 S R0 D' H' F' r' w' := by
  have hold : ∀ b o v j ob, F b o = some v → T j → H' j = some ob → ob.foot (r' j) b o → False := by
    intro b o v j ob hv hj hob hfo
    rcases hfoot j ob b o hj hob hfo with ⟨j0, ob0, h1, h2, h3⟩ | h1
    · exact h.fown b o v j0 ob0 hv h2 h3
    · exact Nat.lt_irrefl _ (Nat.lt_of_lt_of_le (World.cell_lt w (h.fin b o v hv)) h1)
  have hsame : ∀ j ob, ¬ T j → H' j = some ob → H j = some ob ∧ r' j = r j := fun j ob hn hj => ⟨hH j ob hn hj, hr j (h.dom j ob (hH j ob hn hj))⟩
  have hsafe : ∀ j ob b o, ¬ T j → H j = some ob → ob.foot (r j) b o → ¬ TFoot T H r b o := by
    rintro j ob b o hn hj hfo ⟨j0, ob0, h1, h2, h3⟩
    exact h.disj j j0 ob ob0 b o hj h2 (fun e => hn (e ▸ h1)) hfo h3
  have hlt : ∀ j ob b o, H j = some ob → ob.foot (r j) b o → b < w.heap.size := fun j ob b o hj hfo => (h.obs j ob hj).lt hfo
  refine ⟨?_, ?_, ?_, ?_, ?_, ?_, ?_, ?_, h.base.trans' hF, ?_⟩
  · intro j ob hj
    by_cases ht : T j
    · exact (hT j ob ht hj).2.1
    · obtain ⟨h1, h2⟩ := hsame j ob ht hj
      rw [h2]
      exact (h.obs j ob h1).stay hF hr (h.scp j ob h1) hf (fun b o hfo => hsafe j ob b o ht h1 hfo)
  · intro j ob hj
    by_cases ht : T j
    · exact (hT j ob ht hj).1
    · exact hD j (h.dom j ob (hsame j ob ht hj).1)
  · intro j ob hj
    by_cases ht : T j
    · exact (hT j ob ht hj).2.2
    · have := h.scp j ob (hsame j ob ht hj).1
      cases ob <;> first | trivial | exact fun c hc => Cell.inn_mono hD (this c hc) | exact fun c hc => Part.inn_mono hD (this c hc)
  · intro j j' ob ob' b o hj hj' hne hb hb'
    by_cases ht : T j <;> by_cases ht' : T j'
    · exact hdis j j' ob ob' b o ht ht' hj hj' hne hb hb'
    · obtain ⟨g1, g2⟩ := hsame j' ob' ht' hj'
      rw [g2] at hb'
      rcases hfoot j ob b o ht hj hb with h1 | h1
      · exact hsafe j' ob' b o ht' g1 hb' h1
      · exact Nat.lt_irrefl _ (Nat.lt_of_lt_of_le (hlt j' ob' b o g1 hb') h1)
    · obtain ⟨g1, g2⟩ := hsame j ob ht hj
      rw [g2] at hb
      rcases hfoot j' ob' b o ht' hj' hb' with h1 | h1
      · exact hsafe j ob b o ht g1 hb h1
      · exact Nat.lt_irrefl _ (Nat.lt_of_lt_of_le (hlt j ob b o g1 hb) h1)
    · obtain ⟨g1, g2⟩ := hsame j ob ht hj
      obtain ⟨g1', g2'⟩ := hsame j' ob' ht' hj'
      rw [g2] at hb
      rw [g2'] at hb'
      exact h.disj j j' ob ob' b o g1 g1' hne hb hb'
  · intro b o v hv
    rcases hnew b o v hv with h1 | ⟨h1, _⟩
    · have h2 := h.fin b o v h1
      rw [hf.cell b o (World.cell_lt w h2) (by rintro ⟨j, ob, _, g2, g3⟩; exact h.fown b o v j ob h1 g2 g3)]
      exact h2
    · exact h1
  · intro b o v j ob hv hj hfo
    by_cases ht : T j
    · rcases hnew b o v hv with h1 | ⟨_, _, h1⟩
      · exact hold b o v j ob h1 ht hj hfo
      · exact h1 j ob ht hj hfo
    · obtain ⟨g1, g2⟩ := hsame j ob ht hj
      rw [g2] at hfo
      rcases hnew b o v hv with h1 | ⟨_, h1 | h1, _⟩
      · exact h.fown b o v j ob h1 g1 hfo
      · exact hsafe j ob b o ht g1 hfo h1
      · exact Nat.lt_irrefl _ (Nat.lt_of_lt_of_le (hlt j ob b o g1 hfo) h1)
  · refine h.frame.trans hf ?_
    rintro b o hb ⟨j, ob, _, g2, g3⟩
    rcases h.fresh j ob b o g2 g3 with h1 | h1
    · omega
    · exact h1
  · intro j ob b o hj hfo
    by_cases ht : T j
    · rcases hfoot j ob b o ht hj hfo with ⟨j0, ob0, _, h2, h3⟩ | h1
      · exact h.fresh j0 ob0 b o h2 h3
      · exact .inl (Nat.le_trans h.frame.size h1)
    · obtain ⟨g1, g2⟩ := hsame j ob ht hj
      rw [g2] at hfo
      exact h.fresh j ob b o g1 hfo
  · intro b o v hv
    rcases hnew b o v hv with h1 | ⟨_, h1 | h1, _⟩
    · exact h.prov b o v h1
    · obtain ⟨j, ob, _, g2, g3⟩ := h1
      exact .inr ((h.fresh j ob b o g2 g3).symm)
    · exact .inr (.inr (Nat.le_trans h.frame.size h1))
end
end Go.Sz
