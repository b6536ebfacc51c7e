/-
  A symbolic machine for one call: what the quiet operations yield.
-/
import Derived.Test.YtlaaljiffcablaaGreatDoorSyB
namespace Go.Sy
open Go Go.RowKit

theorem capsOf_den {r : Loc} {env : Env} {a : Act} (he : EnvOk r env a) : ∀ {l : List Operand} {caps : List (Option (Nat × Nat) × Value)}, capsOf env l = some caps →
    l.map a.eval = caps.map (denCap r)
  | [], caps, h => by simp [capsOf] at h; subst h; rfl
  | x :: l, caps, h => by
    simp only [capsOf] at h
    split at h
    · rename_i c hc
      split at h
      · rename_i k ks hk hks
        injection h with h; subst h
        have h1 := evalO_den he hc
        have h2 := capsOf_den he hks
        simp only [List.map_cons, h2, h1]
        congr 1
        cases c with
        | v x => simp [capOf] at hk; subst hk; rfl
        | p j o => simp [capOf] at hk; subst hk; rfl
        | clo f cs => cases hk
        | w k x => simp [capOf] at hk; subst hk; rfl
        | s j o sz len cap => cases hk
      · cases h
    · cases h

theorem capsOf_lt {n : Nat} {env : Env} (hl : ∀ k av, look env k = some av → av.lt n) : ∀ {l : List Operand} {caps : List (Option (Nat × Nat) × Value)}, capsOf env l = some caps →
    ∀ c ∈ caps, capLt n c
  | [], caps, h => by simp [capsOf] at h; subst h; intro c hc; cases hc
  | x :: l, caps, h => by
    simp only [capsOf] at h
    split at h
    · rename_i c hc
      split at h
      · rename_i k ks hk hks
        injection h with h; subst h
        have h1 := evalO_lt hl hc
        have h2 := capsOf_lt hl hks
        intro y hy
        rcases List.mem_cons.1 hy with rfl | hy
        · cases c with
          | v x => simp [capOf] at hk; subst hk; trivial
          | p j o => simp [capOf] at hk; subst hk; exact h1
          | clo f cs => cases hk
          | w k x => simp [capOf] at hk; subst hk; trivial
          | s j o sz len cap => cases hk
        · exact h2 y hy
      · cases h
    · cases h

theorem cmpA_run {P : Program} {r : Loc} {op : BinOp} {t : TypeId} {xs ys : List Cell} {b : Bool} (h : cmpA P op t (.many xs) (.many ys) = some b) (x y : Operand) (w : World) :
    (do eqGuard op t x y (Part.den r (.many xs)) (Part.den r (.many ys)); binOp op t (Part.den r (.many xs)) (Part.den r (.many ys)) : Sem Value).run P w = .ok (.bool b) w := by
  unfold cmpA at h
  cases hg : P.eqGuardType P.depth t with
  | true => rw [hg] at h; cases h
  | false =>
    rw [hg] at h
    simp only [cond_false] at h
    rw [Sem.run_bind, Part.den, Part.den, run_eqGuard_agg w op t x y _ _ hg]
    simp only [Result.andThen_ok]
    split at h
    · rw [run_eql_struct w t]
      have := eqA_run (r := r) 10000 t (.many xs) (.many ys) b w h
      simp only [Part.den] at this
      rw [this]; rfl
    · split at h
      · rename_i c hc
        injection h with h; subst h
        rw [run_neq_struct w t]
        have := eqA_run (r := r) 10000 t (.many xs) (.many ys) c w hc
        simp only [Part.den] at this
        rw [this]; rfl
      · cases h
    · cases h

/-! ### Words -/
section
variable {P : Program} {r : Loc} {av : AV}

theorem eqGuard_int (op : BinOp) (t : TypeId) (x y : Operand) (k k' : IntKind) (a b : Int) (w : World) : (eqGuard op t x y (.int k a) (.int k' b)).run P w = .ok () w := by
  cases op <;> simp [eqGuard]

theorem binW_run {op : BinOp} {k : IntKind} (hk : k.signed = false) {x y : BitVec k.bits} (h : (binW op k x y).run = some av) (t : TypeId) (w : World) :
    (binOp op t (.int k x.toNat) (.int k y.toNat)).run P w = .ok (av.den r) w := by
  cases op <;> simp only [binW, Tree.run, Option.some.injEq] at h <;> try (cases h)
  case add => simp [binOp, Op.intArith, w_add hk, AV.den, Part.den, Cell.den]
  case sub => simp [binOp, Op.intArith, w_sub hk, AV.den, Part.den, Cell.den]
  case mul => simp [binOp, Op.intArith, w_mul hk, AV.den, Part.den, Cell.den]
  case and => simp only [binOp, ne_eq, not_true, if_false, Op.intBits, ofInt_toNat, wrap_toNat hk, Sem.run_pure, AV.den, Part.den, Cell.den]
  case or => simp only [binOp, ne_eq, not_true, if_false, Op.intBits, ofInt_toNat, wrap_toNat hk, Sem.run_pure, AV.den, Part.den, Cell.den]
  case xor => simp only [binOp, ne_eq, not_true, if_false, Op.intBits, ofInt_toNat, wrap_toNat hk, Sem.run_pure, AV.den, Part.den, Cell.den]
  case andNot => simp only [binOp, ne_eq, not_true, if_false, Op.intBits, ofInt_toNat, wrap_toNat hk, Sem.run_pure, AV.den, Part.den, Cell.den]
  case eql => simp only [binOp, ne_eq, not_true, if_false, Op.intCmp, w_eq, Sem.run_pure, AV.den, Part.den, Cell.den]
  case neq => simp only [binOp, ne_eq, not_true, if_false, Op.intCmp, w_ne, Sem.run_pure, AV.den, Part.den, Cell.den]
  case lss => simp only [binOp, ne_eq, not_true, if_false, Op.intCmp, w_lt, Sem.run_pure, AV.den, Part.den, Cell.den]
  case leq => simp only [binOp, ne_eq, not_true, if_false, Op.intCmp, w_le, Sem.run_pure, AV.den, Part.den, Cell.den]
  case gtr => simp only [binOp, ne_eq, not_true, if_false, Op.intCmp, gt_iff_lt, w_lt, Sem.run_pure, AV.den, Part.den, Cell.den]
  case geq => simp only [binOp, ne_eq, not_true, if_false, Op.intCmp, ge_iff_le, w_le, Sem.run_pure, AV.den, Part.den, Cell.den]
  case quo =>
    cases hz : (y == 0#k.bits) with
    | true => rw [hz] at h; cases h
    | false =>
      rw [hz] at h
      simp only [cond_false, Option.some.injEq] at h; subst h
      have hy : ¬ ((y.toNat : Int) = 0) := fun e => by rw [w_zero] at e; rw [hz] at e; cases e
      simp only [binOp, ne_eq, not_true, if_false, Op.intDiv, hy, w_div hk, Sem.run_pure, AV.den, Part.den, Cell.den]
  case rem =>
    cases hz : (y == 0#k.bits) with
    | true => rw [hz] at h; cases h
    | false =>
      rw [hz] at h
      simp only [cond_false, Option.some.injEq] at h; subst h
      have hy : ¬ ((y.toNat : Int) = 0) := fun e => by rw [w_zero] at e; rw [hz] at e; cases e
      simp only [binOp, ne_eq, not_true, if_false, Op.intDiv, hy, w_mod, Sem.run_pure, AV.den, Part.den, Cell.den]

theorem shW_run {op : BinOp} {k : IntKind} (hk : k.signed = false) {x : BitVec k.bits} {c : Cell} (h : (shW op k x c).run = some av) (t : TypeId) (w : World) :
    (binOp op t (.int k x.toNat) (c.den r)).run P w = .ok (av.den r) w := by
  unfold shW at h
  split at h
  · rename_i k' y
    simp only [Tree.run, Option.some.injEq] at h; subst h
    have h0 : ¬ ((y.toNat : Int) < 0) := by omega
    simp only [binOp, Cell.den, Op.shift, h0, if_false, Int.toNat_natCast, w_shl hk, Sem.run_pure, AV.den, Part.den]
  · rename_i k' y
    simp only [Tree.run, Option.some.injEq] at h; subst h
    have h0 : ¬ ((y.toNat : Int) < 0) := by omega
    simp only [binOp, Cell.den, Op.shift, h0, if_false, Int.toNat_natCast, w_shr, Sem.run_pure, AV.den, Part.den]
  · rename_i k' n
    simp only [Tree.run] at h
    by_cases h0 : n < 0
    · simp [h0] at h
    · simp only [h0, decide_false, cond_false, Option.some.injEq] at h; subst h
      simp only [binOp, Cell.den, Op.shift, h0, if_false, w_shl hk, Sem.run_pure, AV.den, Part.den]
  · rename_i k' n
    simp only [Tree.run] at h
    by_cases h0 : n < 0
    · simp [h0] at h
    · simp only [h0, decide_false, cond_false, Option.some.injEq] at h; subst h
      simp only [binOp, Cell.den, Op.shift, h0, if_false, w_shr, Sem.run_pure, AV.den, Part.den]
  · cases h

theorem shI_run {op : BinOp} {k : IntKind} {x : Int} {c : Cell} (h : (shI op k x c).run = some av) (t : TypeId) (w : World) :
    (binOp op t (.int k x) (c.den r)).run P w = .ok (av.den r) w := by
  unfold shI at h
  split at h
  · rename_i k' y
    simp only [Tree.run, Option.some.injEq] at h; subst h
    have h0 : ¬ ((y.toNat : Int) < 0) := by omega
    simp only [binOp, Cell.den, Op.shift, h0, if_false, Int.toNat_natCast, Sem.run_pure, AV.den, Part.den]
  · rename_i k' y
    simp only [Tree.run, Option.some.injEq] at h; subst h
    have h0 : ¬ ((y.toNat : Int) < 0) := by omega
    simp only [binOp, Cell.den, Op.shift, h0, if_false, Int.toNat_natCast, Sem.run_pure, AV.den, Part.den]
  · rename_i k' n
    simp only [Tree.run] at h
    by_cases h0 : n < 0
    · simp [h0] at h
    · simp only [h0, decide_false, cond_false, Option.some.injEq] at h; subst h
      simp only [binOp, Cell.den, Op.shift, h0, if_false, Sem.run_pure, AV.den, Part.den]
  · rename_i k' n
    simp only [Tree.run] at h
    by_cases h0 : n < 0
    · simp [h0] at h
    · simp only [h0, decide_false, cond_false, Option.some.injEq] at h; subst h
      simp only [binOp, Cell.den, Op.shift, h0, if_false, Sem.run_pure, AV.den, Part.den]
  · cases h

theorem divI_run {op : BinOp} {k : IntKind} {x y : Int} (h : (divI op k x y).run = some av) (t : TypeId) (w : World) :
    (binOp op t (.int k x) (.int k y)).run P w = .ok (av.den r) w := by
  cases op <;> simp only [divI, Tree.run] at h <;> try (cases h)
  all_goals
    by_cases h0 : y = 0
    · simp [h0] at h
    · simp only [h0, decide_false, cond_false, Option.some.injEq] at h; subst h
      simp only [binOp, ne_eq, not_true, if_false, Op.intDiv, h0, Sem.run_pure, AV.den, Part.den, Cell.den]

theorem shift_kind (op : BinOp) (hs : isShift op = true) (x y : Operand) (t : TypeId) (u v : Value) (w : World) : (eqGuard op t x y u v).run P w = .ok () w := by
  cases op <;> simp [isShift] at hs <;> simp [eqGuard]

theorem arith_run {op : BinOp} {t : TypeId} {a b : Cell} {gen : Tree AV} (h : (arith P op t a b gen).run = some av) (x y : Operand) (w : World)
    (hg : gen.run = some av → (do eqGuard op t x y (a.den r) (b.den r); binOp op t (a.den r) (b.den r) : Sem Value).run P w = .ok (av.den r) w) :
    (do eqGuard op t x y (a.den r) (b.den r); binOp op t (a.den r) (b.den r) : Sem Value).run P w = .ok (av.den r) w := by
  unfold arith at h
  split at h
  · rename_i k hu
    cases hs : isShift op with
    | true =>
      rw [hs] at h
      simp only [cond_true] at h
      cases hk : k.signed with
      | true =>
        rw [hk] at h
        simp only [cond_true] at h
        split at h
        · rw [Sem.run_bind, shift_kind op hs]
          exact shI_run h t w
        · exact hg h
      | false =>
        rw [hk] at h
        simp only [cond_false] at h
        split at h
        · rename_i z hz
          rw [Sem.run_bind, shift_kind op hs]
          simp only [Result.andThen_ok]
          rw [wOf_den hz]
          exact shW_run hk h t w
        · exact hg h
    | false =>
      rw [hs] at h
      simp only [cond_false] at h
      cases hk : k.signed with
      | true =>
        rw [hk] at h
        simp only [cond_true] at h
        cases hd : isDiv op with
        | false => rw [hd] at h; exact hg h
        | true =>
          rw [hd] at h
          simp only [cond_true] at h
          split at h
          · rename_i k1 m k2 n
            split at h
            · rename_i e; subst e
              rw [Sem.run_bind]
              simp only [Cell.den, eqGuard_int, Result.andThen_ok]
              exact divI_run h t w
            · cases h
          · exact hg h
      | false =>
        rw [hk] at h
        simp only [cond_false] at h
        split at h
        · rename_i u v hu' hv'
          rw [Sem.run_bind, wOf_den hu', wOf_den hv', eqGuard_int]
          exact binW_run hk h t w
        · exact hg h
  · exact hg h

theorem unW_run {op : UnOp} {t : TypeId} {a : Cell} {gen : Tree AV} (h : (unW P op t a gen).run = some av) (w : World)
    (hg : gen.run = some av → (Op.unary op (a.den r)).run P w = .ok (av.den r) w) : (Op.unary op (a.den r)).run P w = .ok (av.den r) w := by
  unfold unW at h
  split at h
  · rename_i k hu
    cases hk : k.signed with
    | true => rw [hk] at h; exact hg h
    | false =>
      rw [hk] at h
      simp only [cond_false] at h
      split at h
      · rename_i x hx
        simp only [Tree.run, Option.some.injEq] at h; subst h
        rw [wOf_den hx]
        simp only [Op.unary, hk, Bool.false_eq_true, if_false, Op.intBits, w_not hk, ofInt_toNat, wrap_toNat hk, Sem.run_pure, AV.den, Part.den, Cell.den]
      · rename_i x hx
        simp only [Tree.run, Option.some.injEq] at h; subst h
        rw [wOf_den hx]
        simp only [Op.unary, Op.intArith, w_neg hk, Sem.run_pure, AV.den, Part.den, Cell.den]
      · exact hg h
  · exact hg h

theorem wrap_toInt {k k' : IntKind} (hk : k.signed = true) (hb : k.bits = k'.bits) (x : BitVec k'.bits) : k.wrap (x.toNat : Int) = x.toInt := by
  have hx : x.toNat < 2 ^ k'.bits := x.isLt
  have hpos : 0 < k'.bits := by cases k' <;> decide
  rw [BitVec.toInt_eq_toNat_cond]
  unfold IntKind.wrap
  simp only [hk, Bool.true_and, hb]
  have e1 : (2 : Int) ^ k'.bits = ((2 ^ k'.bits : Nat) : Int) := by simp
  have e2 : (2 : Int) ^ (k'.bits - 1) = ((2 ^ (k'.bits - 1) : Nat) : Int) := by simp
  have e3 : 2 ^ k'.bits = 2 * 2 ^ (k'.bits - 1) := by
    rw [← Nat.pow_succ']; congr 1; omega
  have e4 : (x.toNat : Int) % (2 : Int) ^ k'.bits = (x.toNat : Int) := by rw [e1]; exact Int.emod_eq_of_lt (by omega) (by omega)
  rw [e4, e2, e1, e3]
  generalize 2 ^ (k'.bits - 1) = m at *
  by_cases h : 2 * x.toNat < 2 * m
  · rw [if_pos h, if_neg (by simp; omega)]
  · rw [if_neg h, if_pos (by simp; omega)]

theorem wrap_wide {k k' : IntKind} (hk : k.signed = true) (hb : k'.bits < k.bits) (x : BitVec k'.bits) : k.wrap (x.toNat : Int) = (x.toNat : Int) := by
  have hx : x.toNat < 2 ^ k'.bits := x.isLt
  unfold IntKind.wrap
  simp only [hk, Bool.true_and]
  have e1 : (2 : Int) ^ k.bits = ((2 ^ k.bits : Nat) : Int) := by simp
  have e2 : (2 : Int) ^ (k.bits - 1) = ((2 ^ (k.bits - 1) : Nat) : Int) := by simp
  have e3 : 2 ^ k.bits = 2 * 2 ^ (k.bits - 1) := by
    rw [← Nat.pow_succ']; congr 1; omega
  have e5 : 2 ^ k'.bits ≤ 2 ^ (k.bits - 1) := Nat.pow_le_pow_right (by omega) (by omega)
  have e4 : (x.toNat : Int) % (2 : Int) ^ k.bits = (x.toNat : Int) := by rw [e1]; exact Int.emod_eq_of_lt (by omega) (by omega)
  rw [e4, e2]
  rw [if_neg (by simp; omega)]

theorem convW_run {src dst : TypeId} {a : Cell} {gen : Tree AV} (h : (convW P src dst a gen).run = some av) (w : World)
    (hg : gen.run = some av → (convert src dst (a.den r)).run P w = .ok (av.den r) w) : (convert src dst (a.den r)).run P w = .ok (av.den r) w := by
  unfold convW at h
  split at h
  · rename_i d k k' x hs hd
    cases hk' : k'.signed with
    | true => rw [hk'] at h; cases h
    | false =>
      rw [hk'] at h
      simp only [cond_false] at h
      have hrun : (convert src dst (Cell.den r (.w k' x))).run P w = .ok (.int k (k.wrap (x.toNat : Int))) w := by
        simp only [convert, Sem.run_bind, run_underlying hs, run_underlying hd, Result.andThen_ok, Cell.den, Conv.intToInt, Sem.run_pure]
      rw [hrun]
      cases hk : k.signed with
      | true =>
        rw [hk] at h
        simp only [cond_true, Tree.run, Option.some.injEq] at h; subst h
        simp only [AV.den, Part.den, Cell.den]
        congr 2
        cases h1 : Nat.beq k.bits k'.bits with
        | true => exact wrap_toInt hk (Nat.eq_of_beq_eq_true h1) x
        | false =>
          cases h2 : Nat.blt k'.bits k.bits with
          | true => exact wrap_wide hk (Nat.le_of_ble_eq_true h2) x
          | false => rfl
      | false =>
        rw [hk] at h
        simp only [cond_false, Tree.run, Option.some.injEq] at h; subst h
        simp only [AV.den, Part.den, Cell.den]
        rw [wrapNat hk, BitVec.toNat_setWidth]
  · rename_i d k k' n hs hd
    cases hk : k.signed with
    | true => rw [hk] at h; exact hg h
    | false =>
      rw [hk] at h
      simp only [cond_false, Tree.run, Option.some.injEq] at h; subst h
      simp only [convert, Sem.run_bind, run_underlying hs, run_underlying hd, Result.andThen_ok, Cell.den, Conv.intToInt, Sem.run_pure, AV.den, Part.den, wrap_ofInt hk]
  · exact hg h

theorem mmW_run {b : Builtin} {a c : Cell} {gen : Tree AV} (h : (mmW b a c gen).run = some av) (ts : Array TypeId) (t : TypeId) (cs : Array Bool) (w : World)
    (hg : gen.run = some av → (builtin b ts t cs #[a.den r, c.den r]).run P w = .ok (.value (av.den r)) w) : (builtin b ts t cs #[a.den r, c.den r]).run P w = .ok (.value (av.den r)) w := by
  unfold mmW at h
  split at h
  · rename_i k x
    split at h
    · rename_i y hy
      simp only [Tree.run, Option.some.injEq] at h; subst h
      rw [wOf_den hy]
      simp only [builtin, Builtin.min_, List.foldlM, Builtin.min2, Cell.den, Sem.run_bind, AV.den, Part.den]
      have := w_lt y x
      cases hc : BitVec.ult y x with
      | true =>
        rw [hc] at this
        have h1 : (y.toNat : Int) < (x.toNat : Int) := by simpa using this
        simp [h1]
      | false =>
        rw [hc] at this
        have h1 : ¬ ((y.toNat : Int) < (x.toNat : Int)) := by simpa using this
        simp [h1]
    · exact hg h
  · rename_i k x
    split at h
    · rename_i y hy
      simp only [Tree.run, Option.some.injEq] at h; subst h
      rw [wOf_den hy]
      simp only [builtin, Builtin.max_, List.foldlM, Builtin.max2, Cell.den, Sem.run_bind, AV.den, Part.den]
      have := w_lt x y
      cases hc : BitVec.ult x y with
      | true =>
        rw [hc] at this
        have h1 : (x.toNat : Int) < (y.toNat : Int) := by simpa using this
        simp [h1]
      | false =>
        rw [hc] at this
        have h1 : ¬ ((x.toNat : Int) < (y.toNat : Int)) := by simpa using this
        simp [h1]
    · exact hg h
  · rename_i k x
    split at h
    · rename_i k' y
      split at h
      · rename_i e; subst e
        simp only [Tree.run, Option.some.injEq] at h; subst h
        simp only [builtin, Builtin.min_, List.foldlM, Builtin.min2, Cell.den, Sem.run_bind, AV.den, Part.den]
        by_cases h1 : y < x <;> simp [h1]
      · exact hg h
    · exact hg h
  · rename_i k x
    split at h
    · rename_i k' y
      split at h
      · rename_i e; subst e
        simp only [Tree.run, Option.some.injEq] at h; subst h
        simp only [builtin, Builtin.max_, List.foldlM, Builtin.max2, Cell.den, Sem.run_bind, AV.den, Part.den]
        by_cases h1 : x < y <;> simp [h1]
      · exact hg h
    · exact hg h
  · exact hg h

end

theorem lenA_run {P : Program} {r : Loc} {av : AV} {b : Builtin} {a : Cell} {ts : Array TypeId} {gen : Tree AV} (h : (lenA P b ts.toList a gen).run = some av) (t : TypeId) (cs : Array Bool) (w : World)
    (hg : gen.run = some av → (builtin b ts t cs #[a.den r]).run P w = .ok (.value (av.den r)) w) : (builtin b ts t cs #[a.den r]).run P w = .ok (.value (av.den r)) w := by
  unfold lenA at h
  split at h
  · rename_i j o sz n cap
    split at h
    · rename_i t1 l hl
      split at h
      · rename_i hu
        simp only [Tree.run, Option.some.injEq] at h; subst h
        have h0 : ts[0]? = some t1 := by rw [← Array.getElem?_toList, hl]; rfl
        have h1 : ∀ v : Value, (#[v] : Array Value)[0]? = some v := fun _ => rfl
        simp only [builtin, Builtin.len_, h0, h1, Cell.den, Sem.run_bind, run_underlying hu, Result.andThen_ok, Sem.run_pure, AV.den, Part.den, goInt]
      · exact hg h
    · rename_i t1 l hl
      split at h
      · rename_i hu
        simp only [Tree.run, Option.some.injEq] at h; subst h
        have h0 : ts[0]? = some t1 := by rw [← Array.getElem?_toList, hl]; rfl
        have h1 : ∀ v : Value, (#[v] : Array Value)[0]? = some v := fun _ => rfl
        simp only [builtin, Builtin.cap_, h0, h1, Cell.den, Sem.run_bind, run_underlying hu, Result.andThen_ok, Sem.run_pure, AV.den, Part.den, goInt]
      · exact hg h
    · exact hg h
  · exact hg h

theorem lenA_lt {P : Program} {n : Nat} {b : Builtin} {a : Cell} {ts : List TypeId} {gen : Tree AV} {av : AV} (h : (lenA P b ts a gen).run = some av) (hg : gen.run = some av → av.lt n) : av.lt n := by
  unfold lenA at h
  split at h
  · split at h
    · split at h
      · injection h with h; subst h; trivial
      · exact hg h
    · split at h
      · injection h with h; subst h; trivial
      · exact hg h
    · exact hg h
  · exact hg h

theorem evalParts_den {r : Loc} {env : Env} {a : Act} (he : EnvOk r env a) : ∀ {l : List (Nat × Operand)} {ps : List (Nat × Part)}, evalParts env l = some ps →
    l.map (fun (p : Nat × Operand) => (p.1, a.eval p.2)) = ps.map (fun p => (p.1, p.2.den r))
  | [], ps, h => by simp [evalParts] at h; subst h; rfl
  | (i, x) :: l, ps, h => by
    simp only [evalParts] at h
    split at h
    · rename_i q r' hq hr
      injection h with h; subst h
      have h1 := evalO_den he hq
      simp only [List.map_cons, h1, evalParts_den he hr, AV.den]
    · cases h

theorem evalParts_lt {n : Nat} {env : Env} (hl : ∀ k av, look env k = some av → av.lt n) : ∀ {l : List (Nat × Operand)} {ps : List (Nat × Part)}, evalParts env l = some ps → ∀ p ∈ ps, p.2.lt n
  | [], ps, h => by simp [evalParts] at h; subst h; intro p hp; cases hp
  | (i, x) :: l, ps, h => by
    simp only [evalParts] at h
    split at h
    · rename_i q r' hq hr
      injection h with h; subst h
      intro p hp
      rcases List.mem_cons.1 hp with rfl | hp
      · exact evalO_lt hl hq
      · exact evalParts_lt hl hr p hp
    · cases h

theorem buildA_run {P : Program} {r : Loc} {t : TypeId} {ps : List (Nat × Part)} {x : Part} (h : buildA P t ps = some x) (w : World) :
    (Instr.build t (ps.map fun p => (p.1, p.2.den r)).toArray).run P w = .ok (x.den r) w := by
  unfold buildA at h
  split at h
  · cases h
  rename_i z hz
  cases hok : okAll (ofK1 z).cells with
  | false => rw [hok] at h; cases h
  | true =>
    rw [hok] at h
    simp only [cond_true] at h
    have hzc : z.cells = (denCells r (ofK1 z).cells).toArray := by rw [← Part.cells_den (r := r) hok, ofK1_den]
    unfold Instr.build
    rw [Sem.run_bind, pureSem_run hz]
    simp only [Result.andThen_ok, hzc]
    split at h
    · rename_i fields hu
      split at h
      · rename_i places hpl
        split at h
        · rename_i cs hcs
          injection h with h; subst h
          simp only [Sem.run_bind, run_underlying hu, Result.andThen_ok]
          have h1 := pureSem_run hpl w
          rw [h1]
          have hf := fillA_fill (r := r) hcs
          simp only [Result.andThen_ok, hf, Sem.run_pure]
          rfl
        · cases h
      · cases h
    · rename_i n elem hu
      split at h
      · rename_i size hsz
        split at h
        · rename_i cs hcs
          injection h with h; subst h
          have hf := fillA_fill (r := r) hcs
          simp only [Sem.run_bind, run_underlying hu, Result.andThen_ok, pureSem_run hsz, hf, Sem.run_pure]
          rfl
        · cases h
      · cases h
    · cases h

theorem buildA_lt {P : Program} {n : Nat} {t : TypeId} {ps : List (Nat × Part)} {x : Part} (h : buildA P t ps = some x) (hp : ∀ p ∈ ps, p.2.lt n) : x.lt n := by
  unfold buildA at h
  split at h
  · cases h
  rename_i z hz
  cases hok : okAll (ofK1 z).cells with
  | false => rw [hok] at h; cases h
  | true =>
    rw [hok] at h
    simp only [cond_true] at h
    have hzl : ∀ c ∈ (ofK1 z).cells, c.lt n := Part.cells_lt (ofK1_lt n z)
    split at h
    · split at h
      · split at h
        · rename_i cs hcs
          injection h with h; subst h
          exact fillA_lt hcs hzl hp
        · cases h
      · cases h
    · split at h
      · split at h
        · rename_i cs hcs
          injection h with h; subst h
          exact fillA_lt hcs hzl hp
        · cases h
      · cases h
    · cases h

theorem sil_run {P : Program} {r : Loc} {hp : Hp} {env : Env} {o : Oper} {av : AV} (h : (sil P hp env o).run = some av) {a : Act} (he : EnvOk r env a) {w : World}
    (hw : isLoad o = true → HeapIs r hp w) : (execOp a.eval o).run P w = .ok (.value (av.den r)) w := by
  obtain ⟨dst, op, type, pos, after, guard⟩ := o
  have hgen : (silGen P env ⟨dst, op, type, pos, after, guard⟩).run = some av → (execOp a.eval ⟨dst, op, type, pos, after, guard⟩).run P w = .ok (.value (av.den r)) w := fun hg => silGen_run hg he w
  unfold sil at h
  split at h
  · -- move
    rename_i x ho
    simp only at ho; subst ho
    rw [Tree.run_ofOpt] at h
    simp [execOp, evalO_den he h]
  · rename_i x ho
    simp only at ho; subst ho
    rw [Tree.run_ofOpt] at h
    simp [execOp, evalO_den he h]
  · -- load
    rename_i t x ho
    simp only at ho; subst ho
    split at h
    · rename_i j off hx
      split at h
      · rename_i q hq
        simp only [Tree.run, Option.some.injEq] at h; subst h
        have h1 := loadA_run (hw rfl) hq
        simp only [execOp, evalO_den he hx, AV.den, Part.den, Cell.den, Instr.loadAt, Instr.sureAddr, Sem.run_bind, Sem.run_pure, Result.andThen_ok, h1]
      · cases h
    · cases h
  · -- fieldAddr
    rename_i s x f ho
    simp only at ho; subst ho
    split at h
    · rename_i j off hx
      split at h
      · rename_i k hk
        simp only [Tree.run, Option.some.injEq] at h; subst h
        simp only [execOp, evalO_den he hx, AV.den, Part.den, Cell.den, Sem.run_bind, fieldOff_run hk, Result.andThen_ok, Sem.run_pure, Nat.add_assoc]
      · cases h
    · exact silGen_run h he w
  · -- field
    rename_i s x f ho
    simp only at ho; subst ho
    split at h
    · rename_i l hx
      split at h
      · rename_i q hq
        simp only [Tree.run, Option.some.injEq] at h; subst h
        simp only [execOp, evalO_den he hx, AV.den, Part.den, Sem.run_bind, fieldA_run hq, Result.andThen_ok, Sem.run_pure]
      · cases h
    · exact silGen_run h he w
  · -- nilCheck
    rename_i x ho
    simp only at ho; subst ho
    split at h
    · rename_i j off hx
      simp only [Tree.run, Option.some.injEq] at h; subst h
      simp [execOp, evalO_den he hx, AV.den, Part.den, Cell.den]
    · rename_i f caps hx
      simp only [Tree.run, Option.some.injEq] at h; subst h
      simp [execOp, evalO_den he hx, AV.den, Part.den, Cell.den]
    · exact silGen_run h he w
  · -- index
    rename_i t x i ho
    simp only at ho; subst ho
    split at h
    · rename_i l k n len elem hx hi hu
      split at h
      · rename_i sz hsz
        obtain ⟨m, _, hm, rfl, h4⟩ := idxTree_run _ _ h
        split at h4
        · rename_i q hq
          injection h4 with h4; subst h4
          have hm' : (0 : Int) ≤ (m : Int) ∧ (m : Int) < (len : Int) := by omega
          simp only [execOp, evalO_den he hx, evalO_den he hi, AV.den, Part.den, Cell.den, Instr.index, asIntOf, Sem.run_bind, Sem.run_pure, Result.andThen_ok, run_underlying hu,
            if_pos hm', pureSem_run hsz, Int.toNat_natCast, partA_run hq]
        · cases h4
      · cases h
    · exact silGen_run h he w
  · -- indexAddr
    rename_i t x i ho
    simp only at ho; subst ho
    split at h
    · rename_i j off k n len elem hx hi hu
      split at h
      · rename_i sz hsz
        obtain ⟨m, _, hm, rfl, h4⟩ := idxTree_run _ _ h
        injection h4 with h4; subst h4
        have hm' : (0 : Int) ≤ (m : Int) ∧ (m : Int) < (len : Int) := by omega
        simp only [execOp, evalO_den he hx, evalO_den he hi, AV.den, Part.den, Cell.den, Instr.indexAt, Instr.sureAddr, asIntOf, Sem.run_bind, Sem.run_pure, Result.andThen_ok, run_underlying hu,
            if_pos hm', pureSem_run hsz, Int.toNat_natCast, Addr.add_mid, Nat.add_assoc]
      · cases h
    · rename_i j off sz0 len cap k n elem hx hi hu
      split at h
      · rename_i sz hsz
        obtain ⟨m, _, hm, rfl, h4⟩ := idxTree_run _ _ h
        injection h4 with h4; subst h4
        have hm' : (0 : Int) ≤ (m : Int) ∧ (m : Int) < (len : Int) := by omega
        simp only [execOp, evalO_den he hx, evalO_den he hi, AV.den, Part.den, Cell.den, Instr.indexAt, Instr.sureAddr, asIntOf, Sem.run_bind, Sem.run_pure, Result.andThen_ok, run_underlying hu,
            if_pos hm', pureSem_run hsz, Int.toNat_natCast, Addr.add_mid, Nat.add_assoc]
      · cases h
    · exact silGen_run h he w
  · -- pick
    rename_i c x y ho
    simp only at ho; subst ho
    split at h
    · rename_i b u v hc hx hy
      simp only [Tree.run, Option.some.injEq] at h; subst h
      cases b <;> simp [execOp, evalO_den he hc, evalO_den he hx, evalO_den he hy, AV.den, Part.den, Cell.den, asBool]
    · rename_i b u v _ hc hx hy
      simp only [Tree.run] at h
      cases b
      · simp only [cond_false, Option.some.injEq] at h; subst h
        have h0 := evalO_den he hc
        simp only [AV.den, Part.den, Cell.den] at h0
        simp [execOp, h0, evalO_den he hy, asBool]
      · simp only [cond_true, Option.some.injEq] at h; subst h
        have h0 := evalO_den he hc
        simp only [AV.den, Part.den, Cell.den] at h0
        simp [execOp, h0, evalO_den he hx, asBool]
    · cases h
  · -- binOp
    rename_i op' t x y ty ho
    simp only at ho; subst ho
    split at h
    · rename_i xs ys hx hy
      split at h
      · rename_i b hb
        simp only [Tree.run, Option.some.injEq] at h; subst h
        have := cmpA_run (r := r) hb x y w
        simp only [execOp, evalO_den he hx, evalO_den he hy, AV.den]
        rw [Sem.run_bind, this]
        rfl
      · cases h
    · rename_i u v hx hy
      simp only [execOp, evalO_den he hx, evalO_den he hy, AV.den, Part.den] at hgen ⊢
      rw [Sem.run_bind]
      rw [arith_run (r := r) h x y w fun hg => ?_]
      · rfl
      · have := hgen hg
        rw [Sem.run_bind] at this
        generalize hX : (do eqGuard op' t x y (Cell.den r u) (Cell.den r v); binOp op' t (Cell.den r u) (Cell.den r v) : Sem Value).run P w = X at this
        cases X with
        | halt x w1 => cases this
        | ok z w1 => simp only [Result.andThen_ok, Sem.run_pure, Result.ok.injEq, Next.value.injEq] at this; rw [this.1, this.2]; rfl
    · exact silGen_run h he w
  · -- unOp
    rename_i op' t x ho
    simp only at ho; subst ho
    split at h
    · rename_i u hx
      simp only [execOp, evalO_den he hx, AV.den, Part.den] at hgen ⊢
      rw [Sem.run_bind]
      rw [unW_run (r := r) h w fun hg => ?_]
      · rfl
      · have := hgen hg
        rw [Sem.run_bind] at this
        generalize hX : (Op.unary op' (Cell.den r u)).run P w = X at this
        cases X with
        | halt x w1 => cases this
        | ok z w1 => simp only [Result.andThen_ok, Sem.run_pure, Result.ok.injEq, Next.value.injEq] at this; rw [this.1, this.2]; rfl
    · exact silGen_run h he w
  · -- convert
    rename_i src dst' x ho
    simp only at ho; subst ho
    split at h
    · rename_i u hx
      simp only [execOp, evalO_den he hx, AV.den, Part.den] at hgen ⊢
      rw [Sem.run_bind]
      rw [convW_run (r := r) h w fun hg => ?_]
      · rfl
      · have := hgen hg
        rw [Sem.run_bind] at this
        generalize hX : (convert src dst' (Cell.den r u)).run P w = X at this
        cases X with
        | halt x w1 => cases this
        | ok z w1 => simp only [Result.andThen_ok, Sem.run_pure, Result.ok.injEq, Next.value.injEq] at this; rw [this.1, this.2]; rfl
    · exact silGen_run h he w
  · -- slice
    rename_i t x lo hi mx ho
    simp only at ho; subst ho
    split at h
    · rename_i j off hx
      split at h
      · rename_i n elem lo' hi' mx' hu hlo hhi hmx
        split at h
        · rename_i sz hsz
          obtain ⟨q, hq, h⟩ := Tree.run_bind_some h
          simp only [Tree.run, Option.some.injEq] at h; subst h
          have hb := boundsA_run (P := P) hq (optI_val he hlo) (optI_val he hhi) (optI_val he hmx) false w
          obtain ⟨q1, q2, q3⟩ := q
          have h0 : ∀ b1 o1, (if q3 = q1 then (⟨b1, o1, none⟩ : Addr) else Addr.add ⟨b1, o1, none⟩ (q1 * sz)) = ⟨b1, bif Nat.beq q3 q1 then o1 else o1 + q1 * sz, none⟩ := fun b1 o1 => by
            by_cases e : q3 = q1
            · subst e; simp
            · rw [if_neg e, Addr.add_mid]
              have : Nat.beq q3 q1 = false := by
                cases hh : Nat.beq q3 q1 with
                | false => rfl
                | true => exact absurd (Nat.eq_of_beq_eq_true hh) e
              rw [this]; rfl
          have h1 : (bif Nat.beq q3 q1 then (r j).2 + off else (r j).2 + off + q1 * sz) = (r j).2 + bif Nat.beq q3 q1 then off else off + q1 * sz := by
            cases Nat.beq q3 q1 <;> simp [Nat.add_assoc]
          simp only [execOp, evalO_den he hx, AV.den, Part.den, Cell.den, Instr.sliceAt, Instr.sureAddr, Sem.run_bind, Sem.run_pure, Result.andThen_ok, run_underlying hu, hb, pureSem_run hsz, h0, h1]
        · cases h
      · cases h
    · rename_i j off sz0 len cap hx
      split at h
      · rename_i elem lo' hi' mx' hu hlo hhi hmx
        split at h
        · rename_i sz hsz
          obtain ⟨q, hq, h⟩ := Tree.run_bind_some h
          simp only [Tree.run, Option.some.injEq] at h; subst h
          have hb := boundsA_run (P := P) hq (optI_val he hlo) (optI_val he hhi) (optI_val he hmx) true w
          obtain ⟨q1, q2, q3⟩ := q
          have h0 : ∀ b1 o1, (if q3 = q1 then some (⟨b1, o1, none⟩ : Addr) else Option.map (fun x => Addr.add x (q1 * sz)) (some ⟨b1, o1, none⟩)) = some ⟨b1, bif Nat.beq q3 q1 then o1 else o1 + q1 * sz, none⟩ := fun b1 o1 => by
            by_cases e : q3 = q1
            · subst e; simp
            · rw [if_neg e, Option.map_some, Addr.add_mid]
              have : Nat.beq q3 q1 = false := by
                cases hh : Nat.beq q3 q1 with
                | false => rfl
                | true => exact absurd (Nat.eq_of_beq_eq_true hh) e
              rw [this]; rfl
          have h1 : (bif Nat.beq q3 q1 then (r j).2 + off else (r j).2 + off + q1 * sz) = (r j).2 + bif Nat.beq q3 q1 then off else off + q1 * sz := by
            cases Nat.beq q3 q1 <;> simp [Nat.add_assoc]
          simp only [execOp, evalO_den he hx, AV.den, Part.den, Cell.den, Instr.sliceAt, Instr.slice, Sem.run_bind, Sem.run_pure, Result.andThen_ok, run_underlying hu, hb, pureSem_run hsz, h0, h1]
        · cases h
      · cases h
    · exact silGen_run h he w
  · -- builtin of one
    rename_i c ho
    simp only at ho; subst ho
    split at h
    · rename_i b x hcal hargs
      split at h
      · rename_i u hx
        have ha : c.args.map a.eval = #[Cell.den r u] := by
          apply Array.ext'
          rw [Array.toList_map, hargs]
          simp [evalO_den he hx, AV.den, Part.den]
        simp only [execOp, resolve, hcal, Sem.run_bind, Sem.run_pure, Result.andThen_ok, invoke, ha] at hgen ⊢
        exact lenA_run h _ _ w hgen
      · exact silGen_run h he w
    · rename_i b x y hcal hargs
      split at h
      · rename_i u v hx hy
        have ha : c.args.map a.eval = #[Cell.den r u, Cell.den r v] := by
          apply Array.ext'
          rw [Array.toList_map, hargs]
          simp [evalO_den he hx, evalO_den he hy, AV.den, Part.den]
        simp only [execOp, resolve, hcal, Sem.run_bind, Sem.run_pure, Result.andThen_ok, invoke, ha] at hgen ⊢
        exact mmW_run h _ _ _ w hgen
      · exact silGen_run h he w
    · exact silGen_run h he w
  · -- build
    rename_i t parts ho
    simp only at ho; subst ho
    split at h
    · rename_i ps hps
      split at h
      · rename_i x hx
        simp only [Tree.run, Option.some.injEq] at h; subst h
        have h1 : (parts.map fun (p : Nat × Operand) => (p.1, a.eval p.2)) = (ps.map fun p => (p.1, p.2.den r)).toArray := by
          rw [← evalParts_den he hps]; apply Array.ext'; simp
        have h2 := buildA_run (r := r) hx w
        rw [← h1] at h2
        simp only [execOp, Sem.run_bind]
        exact (congrArg (fun y => Result.andThen y _) h2).trans rfl
      · cases h
    · cases h
  · -- extract
    rename_i x i ho
    simp only at ho; subst ho
    split at h
    · rename_i l hx
      split at h
      · rename_i q hq
        simp only [Tree.run, Option.some.injEq] at h; subst h
        rw [nth_eq] at hq
        simp [execOp, evalO_den he hx, AV.den, Instr.extract, hq]
      · cases h
    · exact silGen_run h he w
  · -- makeFunc
    rename_i f first captured ho
    simp only at ho; subst ho
    cases hf : first.isEmpty with
    | false => rw [hf] at h; cases h
    | true =>
      rw [hf] at h
      simp only [cond_true] at h
      split at h
      · rename_i caps hcaps
        simp only [Tree.run, Option.some.injEq] at h; subst h
        have h1 := capsOf_den he hcaps
        have h2 : captured.map a.eval = (caps.map (denCap r)).toArray := by
          rw [← h1]; apply Array.ext'; simp
        have h3 : first = #[] := by simpa using hf
        simp [execOp, Instr.makeFunc, AV.den, Part.den, Cell.den, h2, h3]
      · cases h
  · exact silGen_run h he w

theorem Tree.run_ofOpt_some {α : Type} {o : Option α} {a : α} (h : (Tree.ofOpt o).run = some a) : o = some a := by rwa [Tree.run_ofOpt] at h

theorem ite_run_lt {n : Nat} {c : Bool} {t e : Tree AV} {av : AV} (h : (Tree.ite c t e).run = some av) (h1 : t.run = some av → av.lt n) (h2 : e.run = some av → av.lt n) : av.lt n := by
  cases c
  · exact h2 h
  · exact h1 h
theorem ret_run_lt {n : Nat} {x av : AV} (h : (Tree.ret x).run = some av) (hx : x.lt n) : av.lt n := by
  injection h with h; subst h; exact hx
theorem fail_run_lt {n : Nat} {av : AV} (h : (Tree.fail : Tree AV).run = some av) : av.lt n := by cases h

theorem binW_lt {n : Nat} {op : BinOp} {k : IntKind} {x y : BitVec k.bits} {av : AV} (h : (binW op k x y).run = some av) : av.lt n := by
  cases op <;> simp only [binW] at h <;>
    first
      | exact fail_run_lt h
      | exact ret_run_lt h trivial
      | exact ite_run_lt h (fun h => fail_run_lt h) (fun h => ret_run_lt h trivial)
theorem shW_lt {n : Nat} {op : BinOp} {k : IntKind} {x : BitVec k.bits} {c : Cell} {av : AV} (h : (shW op k x c).run = some av) : av.lt n := by
  unfold shW at h
  split at h <;>
    first
      | exact fail_run_lt h
      | exact ret_run_lt h trivial
      | exact ite_run_lt h (fun h => fail_run_lt h) (fun h => ret_run_lt h trivial)
theorem shI_lt {n : Nat} {op : BinOp} {k : IntKind} {x : Int} {c : Cell} {av : AV} (h : (shI op k x c).run = some av) : av.lt n := by
  unfold shI at h
  split at h <;>
    first
      | exact fail_run_lt h
      | exact ret_run_lt h trivial
      | exact ite_run_lt h (fun h => fail_run_lt h) (fun h => ret_run_lt h trivial)
theorem divI_lt {n : Nat} {op : BinOp} {k : IntKind} {x y : Int} {av : AV} (h : (divI op k x y).run = some av) : av.lt n := by
  unfold divI at h
  split at h <;>
    first
      | exact fail_run_lt h
      | exact ite_run_lt h (fun h => fail_run_lt h) (fun h => ret_run_lt h trivial)
theorem arith_lt {P : Program} {n : Nat} {op : BinOp} {t : TypeId} {a b : Cell} {gen : Tree AV} {av : AV} (h : (arith P op t a b gen).run = some av) (hg : gen.run = some av → av.lt n) : av.lt n := by
  unfold arith at h
  split at h
  · rename_i k hu
    cases hs : isShift op <;> rw [hs] at h <;> simp only [cond_true, cond_false] at h <;> cases hk : k.signed <;> rw [hk] at h <;> simp only [cond_true, cond_false] at h
    · split at h
      · exact binW_lt h
      · exact hg h
    · cases hd : isDiv op <;> rw [hd] at h <;> simp only [cond_true, cond_false] at h
      · exact hg h
      · split at h
        · split at h
          · exact divI_lt h
          · cases h
        · exact hg h
    · split at h
      · exact shW_lt h
      · exact hg h
    · split at h
      · exact shI_lt h
      · exact hg h
  · exact hg h
theorem unW_lt {P : Program} {n : Nat} {op : UnOp} {t : TypeId} {a : Cell} {gen : Tree AV} {av : AV} (h : (unW P op t a gen).run = some av) (hg : gen.run = some av → av.lt n) : av.lt n := by
  unfold unW at h
  split at h
  · rename_i k hu
    cases hk : k.signed <;> rw [hk] at h <;> simp only [cond_true, cond_false] at h
    · split at h
      · exact ret_run_lt h trivial
      · exact ret_run_lt h trivial
      · exact hg h
    · exact hg h
  · exact hg h
theorem convW_lt {P : Program} {n : Nat} {src dst : TypeId} {a : Cell} {gen : Tree AV} {av : AV} (h : (convW P src dst a gen).run = some av) (hg : gen.run = some av → av.lt n) : av.lt n := by
  unfold convW at h
  split at h
  · rename_i d k k' x hs hd
    cases hk' : k'.signed <;> rw [hk'] at h <;> simp only [cond_true, cond_false] at h
    · cases hk : k.signed <;> rw [hk] at h <;> simp only [cond_true, cond_false] at h <;> exact ret_run_lt h trivial
    · cases h
  · rename_i d k k' m hs hd
    cases hk : k.signed <;> rw [hk] at h <;> simp only [cond_true, cond_false] at h
    · exact ret_run_lt h trivial
    · exact hg h
  · exact hg h
theorem mmW_lt {n : Nat} {b : Builtin} {a c : Cell} {gen : Tree AV} {av : AV} (h : (mmW b a c gen).run = some av) (hg : gen.run = some av → av.lt n) : av.lt n := by
  unfold mmW at h
  split at h
  · split at h
    · exact ret_run_lt h trivial
    · exact hg h
  · split at h
    · exact ret_run_lt h trivial
    · exact hg h
  · split at h
    · split at h
      · exact ret_run_lt h trivial
      · exact hg h
    · exact hg h
  · split at h
    · split at h
      · exact ret_run_lt h trivial
      · exact hg h
    · exact hg h
  · exact hg h

theorem sil_lt {P : Program} {n : Nat} {hp : Hp} {env : Env} {o : Oper} {av : AV} (hl : ∀ k av, look env k = some av → av.lt n) (hh : ∀ l ∈ hp, ∀ c ∈ l, c.lt n)
    (h : (sil P hp env o).run = some av) : av.lt n := by
  obtain ⟨dst, op, type, pos, after, guard⟩ := o
  unfold sil at h
  split at h
  · exact evalO_lt hl (Tree.run_ofOpt_some h)
  · exact evalO_lt hl (Tree.run_ofOpt_some h)
  · split at h
    · split at h
      · rename_i q hq
        simp only [Tree.run, Option.some.injEq] at h; subst h
        exact loadA_lt hh hq
      · cases h
    · cases h
  · split at h
    · rename_i j off hx
      split at h
      · simp only [Tree.run, Option.some.injEq] at h; subst h
        have h0 : j < n := evalO_lt hl hx
        exact h0
      · cases h
    · exact silGen_lt h
  · split at h
    · rename_i l hx
      split at h
      · rename_i q hq
        simp only [Tree.run, Option.some.injEq] at h; subst h
        exact fieldA_lt (evalO_lt hl hx) hq
      · cases h
    · exact silGen_lt h
  · split at h
    · rename_i j off hx
      simp only [Tree.run, Option.some.injEq] at h; subst h
      exact evalO_lt hl hx
    · rename_i f caps hx
      simp only [Tree.run, Option.some.injEq] at h; subst h
      exact evalO_lt hl hx
    · exact silGen_lt h
  · split at h
    · rename_i l k m len elem hx hi hu
      split at h
      · obtain ⟨m, _, hm, rfl, h4⟩ := idxTree_run _ _ h
        split at h4
        · rename_i q hq
          injection h4 with h4; subst h4
          exact partA_lt (evalO_lt hl hx) hq
        · cases h4
      · cases h
    · exact silGen_lt h
  · split at h
    · rename_i j off k m len elem hx hi hu
      split at h
      · obtain ⟨m, _, hm, rfl, h4⟩ := idxTree_run _ _ h
        injection h4 with h4; subst h4
        have h0 : j < n := evalO_lt hl hx
        exact h0
      · cases h
    · rename_i j off sz0 len cap k m elem hx hi hu
      split at h
      · obtain ⟨m, _, hm, rfl, h4⟩ := idxTree_run _ _ h
        injection h4 with h4; subst h4
        have h0 : j < n := evalO_lt hl hx
        exact h0
      · cases h
    · exact silGen_lt h
  · split at h
    · simp only [Tree.run, Option.some.injEq] at h; subst h
      trivial
    · rename_i b u v _ hc hx hy
      simp only [Tree.run] at h
      cases b
      · simp only [cond_false, Option.some.injEq] at h; subst h; exact evalO_lt hl hy
      · simp only [cond_true, Option.some.injEq] at h; subst h; exact evalO_lt hl hx
    · cases h
  · split at h
    · split at h
      · simp only [Tree.run, Option.some.injEq] at h; subst h
        trivial
      · cases h
    · exact arith_lt h silGen_lt
    · exact silGen_lt h
  · split at h
    · exact unW_lt h silGen_lt
    · exact silGen_lt h
  · split at h
    · exact convW_lt h silGen_lt
    · exact silGen_lt h
  · split at h
    · rename_i j off hx
      split at h
      · split at h
        · obtain ⟨q, hq, h⟩ := Tree.run_bind_some h
          injection h with h; subst h
          have h0 : j < n := evalO_lt hl hx
          exact h0
        · cases h
      · cases h
    · rename_i j off sz0 len cap hx
      split at h
      · split at h
        · obtain ⟨q, hq, h⟩ := Tree.run_bind_some h
          injection h with h; subst h
          have h0 : j < n := evalO_lt hl hx
          exact h0
        · cases h
      · cases h
    · exact silGen_lt h
  · split at h
    · split at h
      · exact lenA_lt h silGen_lt
      · exact silGen_lt h
    · split at h
      · exact mmW_lt h silGen_lt
      · exact silGen_lt h
    · exact silGen_lt h
  · split at h
    · rename_i ps hps
      split at h
      · rename_i x hx
        simp only [Tree.run, Option.some.injEq] at h; subst h
        exact buildA_lt hx (evalParts_lt hl hps)
      · cases h
    · cases h
  · split at h
    · rename_i l hx
      split at h
      · rename_i q hq
        simp only [Tree.run, Option.some.injEq] at h; subst h
        rw [nth_eq] at hq
        exact (evalO_lt hl hx) q (List.mem_of_getElem? hq)
      · cases h
    · exact silGen_lt h
  · rename_i f first captured _
    cases hf : first.isEmpty with
    | false => rw [hf] at h; cases h
    | true =>
      rw [hf] at h
      simp only [cond_true] at h
      split at h
      · rename_i caps hcaps
        simp only [Tree.run, Option.some.injEq] at h; subst h
        exact capsOf_lt hl hcaps
      · cases h
  · exact silGen_lt h

end Go.Sy
