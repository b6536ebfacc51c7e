/-
  TnumMul: the count of noughts, the walk, the law.
-/
import Derived.Test.YtfgifilpcdhdbaaDoorMul
import Derived.Test.YtfgifilpcdhdbaaDoorTnN
namespace Go.Proofs.YtfgifilpcdhdbaaDoor
open Go Go.Sy Go.Tn

namespace nou
def path : List Nat := [0, 0, 1, 1]
def K : List Nat := [1, 2, 3]
@[reducible] def hd (t : Tn) (z n : Int) : St := ⟨[(1, .p (.one (.p 0 0))), (2, iA z), (3, iA n)], [[.w .u64 t.v, .w .u64 t.m]]⟩
def orc : St → Option (Ex × St)
  | ⟨[(1, .p (.one (.p 0 0))), (2, .p (.one (.v (.int .i64 z)))), (3, .p (.one (.v (.int .i64 (.ofNat 0)))))], [[.w .u64 a, .w .u64 b]]⟩ => some (.exit 0, hd ⟨a, b⟩ z (noughts ⟨a, b⟩))
  | _ => none
def LL : LT := oneL path K K orc noL

theorem step (t : Tn) (z n : Int) (m : Nat) : loopR Tryd.prog (lk L_mul) Tryd.f8.ntmps 20 LL (codeOf Tryd.f8) path K K 1 (m + 1) (hd t z n) =
    bif decide (n < 64) then (bif decide (n < 0) then none else bif (t.v ||| t.m) >>> n.toNat % BitVec.ofInt 64 2 == BitVec.ofInt 64 0 then loopR Tryd.prog (lk L_mul) Tryd.f8.ntmps 20 LL (codeOf Tryd.f8) path K K 1 m (hd t z (IntKind.i64.wrap (n + 1))) else some (.exit 0, hd t z n))
    else some (.exit 0, hd t z n) := by kernel_rfl

theorem whole (t : Tn) (z : Int) : ∀ (k : Nat) (n : Int), 0 ≤ n → n + k = noughts t → loopR Tryd.prog (lk L_mul) Tryd.f8.ntmps 20 LL (codeOf Tryd.f8) path K K 1 (k + 1) (hd t z n) = some (.exit 0, hd t z (noughts t))
  | 0, n, h0, h => by
    have hr := noughts_range t
    have hn : n = noughts t := by omega
    subst hn
    rw [step]
    by_cases h64 : noughts t < 64
    · rw [decide_eq_true h64, decide_eq_false (show ¬ noughts t < 0 by omega), rem2]
      have := ctz_at (x := t.v ||| t.m) h64
      show (bif true then (bif false then none else bif !bt (t.v ||| t.m) (noughts t).toNat then _ else _) else _) = _
      have e : bt (t.v ||| t.m) (noughts t).toNat = true := this
      rw [e]; rfl
    · rw [decide_eq_false h64]; rfl
  | k + 1, n, h0, h => by
    have hr := noughts_range t
    rw [step, decide_eq_true (show n < 64 by omega), decide_eq_false (show ¬ n < 0 by omega), rem2]
    have e : bt (t.v ||| t.m) n.toNat = false := ctz_low (x := t.v ||| t.m) (by show _ < noughts t; omega)
    rw [e, wrap_i64_small (by omega) (by omega)]
    exact whole t z k (n + 1) (by omega) (by omega)

theorem lok : LOk Tryd.prog (lk L_mul) Tryd.f8.ntmps 20 LL (codeOf Tryd.f8) := lok_oneL (noL_ok2 _ _ _ _ _ _) (by kernel_rfl) fun st ex st' h => by
  unfold orc at h
  split at h
  · rename_i z a b
    injection h with h
    injection h with h1 h2
    subst h1; subst h2
    have hr := noughts_range ⟨a, b⟩
    exact ⟨(noughts ⟨a, b⟩).toNat + 1, 1, rfl, whole ⟨a, b⟩ z (noughts ⟨a, b⟩).toNat 0 (by omega) (by omega)⟩
  · cases h
theorem ev (a b : BitVec 64) : (evalFnL Tryd.prog (lk L_mul) 20 LL Tryd.f8 (codeOf Tryd.f8) [tA ⟨a, b⟩] []).run = some (iA (noughts ⟨a, b⟩), []) := by kernel_rfl
end nou
theorem ok_lnoughts : SummOk Kn Tryd.prog 8 ⟨[], gT fun a => iA (noughts a)⟩ := summ_ofL tok_mul Tryd.checked.mixed Tryd.func8 (by kernel_rfl) (by rfl) 20 nou.lok (fun args H v H' h => by
  obtain ⟨a, b, rfl, rfl, rfl, rfl⟩ := gT_inv h; exact nou.ev a b)
def L_lnoughts : List (Nat × Summ) := (8, ⟨[], gT fun a => iA (noughts a)⟩) :: L_mul
theorem tok_lnoughts : TOk Kn Tryd.prog (lk L_lnoughts) := lk_cons ok_lnoughts tok_mul

namespace mlaw
abbrev TT : Option (AV × Hp) := some (bA true, [])
abbrev FF : Option (AV × Hp) := some (bA false, [])
@[reducible] def low (A B : Tn) : Option (AV × Hp) :=
  bif decide (lawN A B < 64) then (bif decide (lawN A B < 0) then none else (bif BitVec.ofInt 64 1 <<< (lawN A B).toNat == 0#64 then none else (bif ok (Tn.mul A B) then some (bA (most (Tn.mul A B) % BitVec.ofInt 64 1 <<< (lawN A B).toNat == BitVec.ofInt 64 0), []) else FF)))
  else (bif ok (Tn.mul A B) then some (bA (most (Tn.mul A B) == BitVec.ofInt 64 0), []) else FF)

theorem low_true {A B : Tn} (ha : ok A = true) (hb : ok B = true) : low A B = TT := by
  have hr := lawN_range A B
  unfold low
  rw [mul_ok]
  by_cases h : lawN A B < 64
  · rw [decide_eq_true h, decide_eq_false (show ¬ lawN A B < 0 by omega), shift_ne h, rem_low ha hb h]; rfl
  · rw [decide_eq_false h, most_zero ha hb h]; rfl

theorem ev (A B : Tn) : (evalFn Tryd.prog (lk L_lnoughts) 20 Tryd.f3 (codeOf Tryd.f3) [tA A, tA B] []).run = some (bA true, []) := by
  have e : (evalFn Tryd.prog (lk L_lnoughts) 20 Tryd.f3 (codeOf Tryd.f3) [tA A, tA B] []).run =
    (bif !!ok A then (bif !ok B then some (bA (ok (Tn.mul A B)), []) else (bif A.m == BitVec.ofInt 64 0 then (bif B.m == BitVec.ofInt 64 0 then some (bA ((Tn.mul A B).v == A.v * B.v && ((Tn.mul A B).m == BitVec.ofInt 64 0 && true)), []) else low A B) else low A B)) else some (bA (ok (Tn.mul A B)), [])) := by kernel_rfl
  rw [e, mul_ok]
  cases ha : ok A with
  | false => rfl
  | true =>
    cases hb : ok B with
    | false => rfl
    | true =>
      rw [low_true ha hb]
      cases h1 : (A.m == BitVec.ofInt 64 0) with
      | false => rfl
      | true =>
        cases h2 : (B.m == BitVec.ofInt 64 0) with
        | false => rfl
        | true =>
          rw [mul_const ha hb (eq_of_beq h1) (eq_of_beq h2)]
          simp
end mlaw
end Go.Proofs.YtfgifilpcdhdbaaDoor
