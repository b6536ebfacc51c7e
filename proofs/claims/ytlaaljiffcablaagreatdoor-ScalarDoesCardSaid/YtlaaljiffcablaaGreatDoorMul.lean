/-
  tnum.Mul: its loop, its contract.
-/
import Derived.Test.YtlaaljiffcablaaGreatDoorTnK
import Derived.Test.YtlaaljiffcablaaGreatDoorTnM
namespace Go.Proofs.YtlaaljiffcablaaGreatDoor
open Go Go.Sy Go.Tn

namespace mul
def path : List Nat := [0, 0, 1, 1, 1, 1, 1]
def K : List Nat := [2, 3, 4, 5, 6, 7]
@[reducible] def ptr (j : Nat) : AV := .p (.one (.p j 0))
@[reducible] def tC (t : Tn) : List Cell := [.w .u64 t.v, .w .u64 t.m]
@[reducible] def hd (l : Int) (q : BitVec 64) (a b r u : Tn) : St := ⟨[(2, ptr 0), (3, ptr 1), (4, ptr 2), (5, iA l), (6, uA q), (7, ptr 3)], [tC a, tC b, tC r, tC u]⟩
def orc : St → Option (Ex × St)
  | ⟨[(2, .p (.one (.p 0 0))), (3, .p (.one (.p 1 0))), (4, .p (.one (.p 2 0))), (5, .p (.one (.v (.int .i64 l)))), (6, .p (.one (.w .u64 q))), (7, .p (.one (.p 3 0)))],
      [[.w .u64 a1, .w .u64 a2], [.w .u64 b1, .w .u64 b2], [.w .u64 r1, .w .u64 r2], [.w .u64 u1, .w .u64 u2]]⟩ =>
    some (.exit 0, hd l q (mloop 65 (⟨a1, a2⟩, ⟨b1, b2⟩, ⟨u1, u2⟩)).1 (mloop 65 (⟨a1, a2⟩, ⟨b1, b2⟩, ⟨u1, u2⟩)).2.1 ⟨r1, r2⟩ (mloop 65 (⟨a1, a2⟩, ⟨b1, b2⟩, ⟨u1, u2⟩)).2.2)
  | _ => none
/-- the region behind the loop: an allocation and calls, in any order -/
def path2 : List Nat := [0, 1, 1, 1, 1, 1, 1]
def K3 : List Nat := [4, 5, 8]
def orc2 : St → Option (Ex × St)
  | ⟨[(2, .p (.one (.p 0 0))), (3, .p (.one (.p 1 0))), (4, .p (.one (.p 2 0))), (5, .p (.one (.v (.int .i64 l)))), (6, .p (.one (.w .u64 q))), (7, .p (.one (.p 3 0)))],
      [[.w .u64 a1, .w .u64 a2], [.w .u64 b1, .w .u64 b2], [.w .u64 r1, .w .u64 r2], [.w .u64 u1, .w .u64 u2]]⟩ =>
    some (.normal, ⟨[(4, ptr 2), (5, iA l), (8, ptr 4)], [tC ⟨a1, a2⟩, tC ⟨b1, b2⟩, tC ⟨r1, r2⟩, tC ⟨u1, u2⟩, tC (add (const q) ⟨u1, u2⟩)]⟩)
  | _ => none
def LL : LT := oneL path K K orc (oneL path2 K K3 orc2 noL)
theorem reg (l : Int) (q : BitVec 64) (a b r u : Tn) : (drawL Tryz.prog (lk L_known) Tryz.f71.ntmps (opsAt (codeOf Tryz.f71) path2) (opsAt (codeOf Tryz.f71) path2).size (Array.replicate (opsAt (codeOf Tryz.f71) path2).size false) [] (hd l q a b r u)).run.map (List.map (restS K3)) =
    some (List.replicate 3 ⟨[(4, ptr 2), (5, iA l), (8, ptr 4)], [tC a, tC b, tC r, tC u, tC (add (const q) u)]⟩) := by kernel_rfl


theorem step (l : Int) (q : BitVec 64) (a b r u : Tn) (n : Nat) : (loopC (evalCode Tryz.prog (lk L_known) Tryz.f71.ntmps 20 LL (bodyAt (codeOf Tryz.f71) path) (0 :: path)) K K 4 (n + 1) (hd l q a b r u)).run =
    bif !(a.v ||| a.m == BitVec.ofInt 64 0) then
      (bif !(a.m &&& BitVec.ofInt 64 1 == BitVec.ofInt 64 0) then (loopC (evalCode Tryz.prog (lk L_known) Tryz.f71.ntmps 20 LL (bodyAt (codeOf Tryz.f71) path) (0 :: path)) K K 4 n (hd l q (rsh a 1) (lsh b 1) r (add u ⟨BitVec.ofInt 64 0, b.v ||| b.m⟩))).run
       else bif !(a.v &&& BitVec.ofInt 64 1 == BitVec.ofInt 64 0) then (loopC (evalCode Tryz.prog (lk L_known) Tryz.f71.ntmps 20 LL (bodyAt (codeOf Tryz.f71) path) (0 :: path)) K K 4 n (hd l q (rsh a 1) (lsh b 1) r (add u ⟨BitVec.ofInt 64 0, b.m⟩))).run
       else (loopC (evalCode Tryz.prog (lk L_known) Tryz.f71.ntmps 20 LL (bodyAt (codeOf Tryz.f71) path) (0 :: path)) K K 4 n (hd l q (rsh a 1) (lsh b 1) r u)).run)
    else some (.exit 0, hd l q a b r u) := by kernel_rfl

theorem whole (l : Int) (q : BitVec 64) (r : Tn) : ∀ (n : Nat) (x : Tn × Tn × Tn), (mloop n x).1.v ||| (mloop n x).1.m = BitVec.ofInt 64 0 →
    (loopC (evalCode Tryz.prog (lk L_known) Tryz.f71.ntmps 20 LL (bodyAt (codeOf Tryz.f71) path) (0 :: path)) K K 4 (n + 1) (hd l q x.1 x.2.1 r x.2.2)).run = some (.exit 0, hd l q (mloop n x).1 (mloop n x).2.1 r (mloop n x).2.2)
  | 0, x, h => by
    rw [step]
    have h : x.1.v ||| x.1.m = BitVec.ofInt 64 0 := h
    rw [h]
    rfl
  | n + 1, x, h => by
    rw [step]
    cases hz : (x.1.v ||| x.1.m == BitVec.ofInt 64 0) with
    | true =>
      have e : mloop (n + 1) x = x := by simp only [mloop, hz, cond_true]
      rw [e]; rfl
    | false =>
      have e : mloop (n + 1) x = mloop n (mstep x) := by simp only [mloop, hz, cond_false]
      rw [e] at h ⊢
      have ih := whole l q r n (mstep x) h
      rw [← ih]
      simp only [Bool.not_false, cond_true, mstep]
      cases (x.1.m &&& BitVec.ofInt 64 1 == BitVec.ofInt 64 0) <;> cases (x.1.v &&& BitVec.ofInt 64 1 == BitVec.ofInt 64 0) <;> simp only [Bool.not_true, Bool.not_false, cond_true, cond_false]

theorem lok : LOk Tryz.prog (lk L_known) Tryz.f71.ntmps 20 LL (codeOf Tryz.f71) := lok_oneL (lok_regN (noL_ok2 _ _ _ _ _ _) (by kernel_rfl) 3 fun st ex st' h => by
    unfold orc2 at h
    split at h
    · rename_i l q a1 a2 b1 b2 r1 r2 u1 u2
      injection h with h
      injection h with h1 h2
      subst h1; subst h2
      exact ⟨rfl, reg l q ⟨a1, a2⟩ ⟨b1, b2⟩ ⟨r1, r2⟩ ⟨u1, u2⟩⟩
    · cases h) (by kernel_rfl) fun st ex st' h => by
  unfold orc at h
  split at h
  · rename_i l q a1 a2 b1 b2 r1 r2 u1 u2
    injection h with h
    injection h with h1 h2
    subst h1; subst h2
    exact ⟨65 + 1, 4, rfl, whole l q ⟨r1, r2⟩ 65 (⟨a1, a2⟩, ⟨b1, b2⟩, ⟨u1, u2⟩) (mloop_ends _)⟩
  · cases h

theorem ev (a b c d : BitVec 64) : (evalFnL Tryz.prog (lk L_known) 20 LL Tryz.f71 (codeOf Tryz.f71) [tA ⟨a, b⟩, tA ⟨c, d⟩] []).run = some (tA (mul ⟨a, b⟩ ⟨c, d⟩), []) := by
  have e : (evalFnL Tryz.prog (lk L_known) 20 LL Tryz.f71 (codeOf Tryz.f71) [tA ⟨a, b⟩, tA ⟨c, d⟩] []).run =
    bif decide (64 ≤ mulLow (right ⟨a, b⟩) (right ⟨c, d⟩)) then some (tA ⟨BitVec.ofInt 64 0, BitVec.ofInt 64 0⟩, [])
    else bif decide (mulLow (right ⟨a, b⟩) (right ⟨c, d⟩) < 0) then none else bif decide (mulLow (right ⟨a, b⟩) (right ⟨c, d⟩) < 0) then none else bif decide (mulLow (right ⟨a, b⟩) (right ⟨c, d⟩) < 0) then none else bif decide (mulLow (right ⟨a, b⟩) (right ⟨c, d⟩) < 0) then none else
      some (tA ⟨(mulOut (right ⟨a, b⟩) (right ⟨c, d⟩)).v >>> (mulLow (right ⟨a, b⟩) (right ⟨c, d⟩)).toNat <<< (mulLow (right ⟨a, b⟩) (right ⟨c, d⟩)).toNat,
        (mulOut (right ⟨a, b⟩) (right ⟨c, d⟩)).m >>> (mulLow (right ⟨a, b⟩) (right ⟨c, d⟩)).toNat <<< (mulLow (right ⟨a, b⟩) (right ⟨c, d⟩)).toNat⟩, []) := by kernel_rfl
  rw [e]
  have h0 : decide (mulLow (right ⟨a, b⟩) (right ⟨c, d⟩) < 0) = false := decide_eq_false (by have := mulLow_nonneg (right ⟨a, b⟩) (right ⟨c, d⟩); omega)
  simp only [h0, mul, mul', cond_false]
  cases decide (64 ≤ mulLow (right ⟨a, b⟩) (right ⟨c, d⟩)) <;> rfl
end mul
theorem ok_mul : SummOk Kn Tryz.prog 71 (sm [] (gTT fun a b => tA (Tn.mul a b))) := summ_ofL tok_known Tryz.checked.mixed Tryz.func71 (by kernel_rfl) (by rfl) 20 mul.lok (fun args H v H' h => by
  obtain ⟨a, b, c, d, rfl, rfl, rfl, rfl⟩ := gTT_inv h; exact mul.ev a b c d)
def L_mul : List (Nat × Summ) := (71, (sm [] (gTT fun a b => tA (Tn.mul a b)))) :: L_known
theorem tok_mul : TOk Kn Tryz.prog (lk L_mul) := lk_cons ok_mul tok_known
end Go.Proofs.YtlaaljiffcablaaGreatDoor
