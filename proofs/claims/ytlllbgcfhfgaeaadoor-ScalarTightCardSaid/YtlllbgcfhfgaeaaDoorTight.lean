/-
  ScalarTight: sums and differences that do not go round have the ends that theirs make; And, Mod, shifts and products by constants are bounded; no condition but that the table math/bits.deBruijn64tab holds what its initialiser lays.
-/
import Derived.Test.YtlllbgcfhfgaeaaDoorScZ
import Derived.Test.YtlllbgcfhfgaeaaDoorLaid
import Derived.Test.YtlllbgcfhfgaeaaDoorCards
namespace Go.Proofs.YtlllbgcfhfgaeaaDoor.lScalarTight
open Go Go.Sy Go.Tn Go.Sc Go.Proofs.YtlllbgcfhfgaeaaDoor
set_option linter.unusedSimpArgs false
set_option linter.unusedVariables false
noncomputable section

namespace rg1
def path : List Nat := [0, 1, 1]
def K : List Nat := [2, 3, 4, 5, 8]
def K2 : List Nat := [2, 3, 8, 9, 10]
def orc : St → Option (Ex × St)
  | ⟨[(2, .p (.one (.w .u64 k))), (3, .p (.one (.w .u8 n))), (4, .p (.one (.p 0 0))), (5, .p (.one (.p 1 0))), (8, .p (.one (.v (.bool r))))], [[.w .u64 a, .w .u64 b, .w .u64 c, .w .u64 d], [.w .u64 e, .w .u64 f, .w .u64 g, .w .u64 h]]⟩ => some (.normal, ⟨[(2, .p (.one (.w .u64 k))), (3, .p (.one (.w .u8 n))), (8, .p (.one (.v (.bool r)))), (9, .p (.one (.p 2 0))), (10, .p (.one (.p 3 0)))], [[.w .u64 a, .w .u64 b, .w .u64 c, .w .u64 d], [.w .u64 e, .w .u64 f, .w .u64 g, .w .u64 h], (sC (mk4 a b c d)), (sC (mk4 e f g h))]⟩)
  | _ => none
theorem reg (a b c d e f g h k : BitVec 64) (n : BitVec 8) (r : Bool) : (drawL Tryd.prog (lk ((13, (sm [] (gU fun n => sA (Sc.const n)))) :: (12, (sm [] (hIBSS fun op w a b => sA (doS op w a b)))) :: (21, (sm [] (hL4 fun a b c d => sA (mk4 a b c d)))) :: L_lmade)) Tryd.f6.ntmps (opsAt (codeOf Tryd.f6) path) (opsAt (codeOf Tryd.f6) path).size (Array.replicate (opsAt (codeOf Tryd.f6) path).size false) [] ⟨[(2, .p (.one (.w .u64 k))), (3, .p (.one (.w .u8 n))), (4, .p (.one (.p 0 0))), (5, .p (.one (.p 1 0))), (8, .p (.one (.v (.bool r))))], [[.w .u64 a, .w .u64 b, .w .u64 c, .w .u64 d], [.w .u64 e, .w .u64 f, .w .u64 g, .w .u64 h]]⟩).run.bind (permAll 2 K2 [[], [0, 1, 3, 2], [], [], [0, 1, 3, 2], [0, 1, 3, 2], [], [], [], [0, 1, 3, 2], [0, 1, 3, 2], [0, 1, 3, 2]]) = some (List.replicate 12 ⟨[(2, .p (.one (.w .u64 k))), (3, .p (.one (.w .u8 n))), (8, .p (.one (.v (.bool r)))), (9, .p (.one (.p 2 0))), (10, .p (.one (.p 3 0)))], [[.w .u64 a, .w .u64 b, .w .u64 c, .w .u64 d], [.w .u64 e, .w .u64 f, .w .u64 g, .w .u64 h], (sC (mk4 a b c d)), (sC (mk4 e f g h))]⟩) := by kernel_rfl
end rg1
def LL : LT := (oneL rg1.path rg1.K rg1.K2 rg1.orc noL)
theorem lok : LOk Tryd.prog (lk ((13, (sm [] (gU fun n => sA (Sc.const n)))) :: (12, (sm [] (hIBSS fun op w a b => sA (doS op w a b)))) :: (21, (sm [] (hL4 fun a b c d => sA (mk4 a b c d)))) :: L_lmade)) Tryd.f6.ntmps 20 LL (codeOf Tryd.f6) := (lok_regP (noL_ok2 _ _ _ _ _ _) (by kernel_rfl) 12 [[], [0, 1, 3, 2], [], [], [0, 1, 3, 2], [0, 1, 3, 2], [], [], [], [0, 1, 3, 2], [0, 1, 3, 2], [0, 1, 3, 2]] fun st ex st' h => by
    unfold rg1.orc at h
    split at h
    · injection h with h
      injection h with h1 h2
      subst h1; subst h2
      exact ⟨rfl, 2, rfl, rg1.reg _ _ _ _ _ _ _ _ _ _ _⟩
    · cases h)
def tight (A B : Sc) (k : BitVec 64) (n : BitVec 8) : Option (AV × Hp) := (bif BitVec.ule A.U (full - B.U) then (bif !BitVec.ult (doS 0 true A B).u (A.u + B.u) then (bif BitVec.ult (A.U + B.U) (doS 0 true A B).U then some (bA false, []) else (bif BitVec.ule B.U A.u then (bif !BitVec.ult (doS 1 true A B).u (A.u - B.U) then (bif BitVec.ult (A.U - B.u) (doS 1 true A B).U then some (bA false, []) else (bif BitVec.ult (minU A.U B.U) (doS 5 true A B).U then some (bA false, []) else (bif BitVec.ult (BitVec.ofInt 64 0) k then (bif BitVec.ule k (doS 9 true A (Sc.const k)).U then some (bA false, []) else (bif BitVec.ult (A.U >>> (BitVec.setWidth 64 (n % BitVec.ofInt 8 64)).toNat) (doS 7 true A (Sc.const (BitVec.setWidth 64 (n % BitVec.ofInt 8 64)))).U then some (bA false, []) else (bif BitVec.ule A.U (full >>> (BitVec.setWidth 64 (n % BitVec.ofInt 8 64)).toNat) then (bif BitVec.ult (A.U <<< (BitVec.setWidth 64 (n % BitVec.ofInt 8 64)).toNat) (doS 6 true A (Sc.const (BitVec.setWidth 64 (n % BitVec.ofInt 8 64)))).U then some (bA false, []) else (bif !(k == BitVec.ofInt 64 0) then (bif k == 0#64 then none else bif !BitVec.ult (full / k) A.U then some (bA (BitVec.ule (doS 2 true A (Sc.const k)).U (A.U * k)), []) else some (bA true, [])) else some (bA true, []))) else (bif !(k == BitVec.ofInt 64 0) then (bif k == 0#64 then none else bif !BitVec.ult (full / k) A.U then some (bA (BitVec.ule (doS 2 true A (Sc.const k)).U (A.U * k)), []) else some (bA true, [])) else some (bA true, []))))) else (bif BitVec.ult (A.U >>> (BitVec.setWidth 64 (n % BitVec.ofInt 8 64)).toNat) (doS 7 true A (Sc.const (BitVec.setWidth 64 (n % BitVec.ofInt 8 64)))).U then some (bA false, []) else (bif BitVec.ule A.U (full >>> (BitVec.setWidth 64 (n % BitVec.ofInt 8 64)).toNat) then (bif BitVec.ult (A.U <<< (BitVec.setWidth 64 (n % BitVec.ofInt 8 64)).toNat) (doS 6 true A (Sc.const (BitVec.setWidth 64 (n % BitVec.ofInt 8 64)))).U then some (bA false, []) else (bif !(k == BitVec.ofInt 64 0) then (bif k == 0#64 then none else bif !BitVec.ult (full / k) A.U then some (bA (BitVec.ule (doS 2 true A (Sc.const k)).U (A.U * k)), []) else some (bA true, [])) else some (bA true, []))) else (bif !(k == BitVec.ofInt 64 0) then (bif k == 0#64 then none else bif !BitVec.ult (full / k) A.U then some (bA (BitVec.ule (doS 2 true A (Sc.const k)).U (A.U * k)), []) else some (bA true, [])) else some (bA true, []))))))) else some (bA false, [])) else (bif BitVec.ult (minU A.U B.U) (doS 5 true A B).U then some (bA false, []) else (bif BitVec.ult (BitVec.ofInt 64 0) k then (bif BitVec.ule k (doS 9 true A (Sc.const k)).U then some (bA false, []) else (bif BitVec.ult (A.U >>> (BitVec.setWidth 64 (n % BitVec.ofInt 8 64)).toNat) (doS 7 true A (Sc.const (BitVec.setWidth 64 (n % BitVec.ofInt 8 64)))).U then some (bA false, []) else (bif BitVec.ule A.U (full >>> (BitVec.setWidth 64 (n % BitVec.ofInt 8 64)).toNat) then (bif BitVec.ult (A.U <<< (BitVec.setWidth 64 (n % BitVec.ofInt 8 64)).toNat) (doS 6 true A (Sc.const (BitVec.setWidth 64 (n % BitVec.ofInt 8 64)))).U then some (bA false, []) else (bif !(k == BitVec.ofInt 64 0) then (bif k == 0#64 then none else bif !BitVec.ult (full / k) A.U then some (bA (BitVec.ule (doS 2 true A (Sc.const k)).U (A.U * k)), []) else some (bA true, [])) else some (bA true, []))) else (bif !(k == BitVec.ofInt 64 0) then (bif k == 0#64 then none else bif !BitVec.ult (full / k) A.U then some (bA (BitVec.ule (doS 2 true A (Sc.const k)).U (A.U * k)), []) else some (bA true, [])) else some (bA true, []))))) else (bif BitVec.ult (A.U >>> (BitVec.setWidth 64 (n % BitVec.ofInt 8 64)).toNat) (doS 7 true A (Sc.const (BitVec.setWidth 64 (n % BitVec.ofInt 8 64)))).U then some (bA false, []) else (bif BitVec.ule A.U (full >>> (BitVec.setWidth 64 (n % BitVec.ofInt 8 64)).toNat) then (bif BitVec.ult (A.U <<< (BitVec.setWidth 64 (n % BitVec.ofInt 8 64)).toNat) (doS 6 true A (Sc.const (BitVec.setWidth 64 (n % BitVec.ofInt 8 64)))).U then some (bA false, []) else (bif !(k == BitVec.ofInt 64 0) then (bif k == 0#64 then none else bif !BitVec.ult (full / k) A.U then some (bA (BitVec.ule (doS 2 true A (Sc.const k)).U (A.U * k)), []) else some (bA true, [])) else some (bA true, []))) else (bif !(k == BitVec.ofInt 64 0) then (bif k == 0#64 then none else bif !BitVec.ult (full / k) A.U then some (bA (BitVec.ule (doS 2 true A (Sc.const k)).U (A.U * k)), []) else some (bA true, [])) else some (bA true, [])))))))) else some (bA false, [])) else (bif BitVec.ule B.U A.u then (bif !BitVec.ult (doS 1 true A B).u (A.u - B.U) then (bif BitVec.ult (A.U - B.u) (doS 1 true A B).U then some (bA false, []) else (bif BitVec.ult (minU A.U B.U) (doS 5 true A B).U then some (bA false, []) else (bif BitVec.ult (BitVec.ofInt 64 0) k then (bif BitVec.ule k (doS 9 true A (Sc.const k)).U then some (bA false, []) else (bif BitVec.ult (A.U >>> (BitVec.setWidth 64 (n % BitVec.ofInt 8 64)).toNat) (doS 7 true A (Sc.const (BitVec.setWidth 64 (n % BitVec.ofInt 8 64)))).U then some (bA false, []) else (bif BitVec.ule A.U (full >>> (BitVec.setWidth 64 (n % BitVec.ofInt 8 64)).toNat) then (bif BitVec.ult (A.U <<< (BitVec.setWidth 64 (n % BitVec.ofInt 8 64)).toNat) (doS 6 true A (Sc.const (BitVec.setWidth 64 (n % BitVec.ofInt 8 64)))).U then some (bA false, []) else (bif !(k == BitVec.ofInt 64 0) then (bif k == 0#64 then none else bif !BitVec.ult (full / k) A.U then some (bA (BitVec.ule (doS 2 true A (Sc.const k)).U (A.U * k)), []) else some (bA true, [])) else some (bA true, []))) else (bif !(k == BitVec.ofInt 64 0) then (bif k == 0#64 then none else bif !BitVec.ult (full / k) A.U then some (bA (BitVec.ule (doS 2 true A (Sc.const k)).U (A.U * k)), []) else some (bA true, [])) else some (bA true, []))))) else (bif BitVec.ult (A.U >>> (BitVec.setWidth 64 (n % BitVec.ofInt 8 64)).toNat) (doS 7 true A (Sc.const (BitVec.setWidth 64 (n % BitVec.ofInt 8 64)))).U then some (bA false, []) else (bif BitVec.ule A.U (full >>> (BitVec.setWidth 64 (n % BitVec.ofInt 8 64)).toNat) then (bif BitVec.ult (A.U <<< (BitVec.setWidth 64 (n % BitVec.ofInt 8 64)).toNat) (doS 6 true A (Sc.const (BitVec.setWidth 64 (n % BitVec.ofInt 8 64)))).U then some (bA false, []) else (bif !(k == BitVec.ofInt 64 0) then (bif k == 0#64 then none else bif !BitVec.ult (full / k) A.U then some (bA (BitVec.ule (doS 2 true A (Sc.const k)).U (A.U * k)), []) else some (bA true, [])) else some (bA true, []))) else (bif !(k == BitVec.ofInt 64 0) then (bif k == 0#64 then none else bif !BitVec.ult (full / k) A.U then some (bA (BitVec.ule (doS 2 true A (Sc.const k)).U (A.U * k)), []) else some (bA true, [])) else some (bA true, []))))))) else some (bA false, [])) else (bif BitVec.ult (minU A.U B.U) (doS 5 true A B).U then some (bA false, []) else (bif BitVec.ult (BitVec.ofInt 64 0) k then (bif BitVec.ule k (doS 9 true A (Sc.const k)).U then some (bA false, []) else (bif BitVec.ult (A.U >>> (BitVec.setWidth 64 (n % BitVec.ofInt 8 64)).toNat) (doS 7 true A (Sc.const (BitVec.setWidth 64 (n % BitVec.ofInt 8 64)))).U then some (bA false, []) else (bif BitVec.ule A.U (full >>> (BitVec.setWidth 64 (n % BitVec.ofInt 8 64)).toNat) then (bif BitVec.ult (A.U <<< (BitVec.setWidth 64 (n % BitVec.ofInt 8 64)).toNat) (doS 6 true A (Sc.const (BitVec.setWidth 64 (n % BitVec.ofInt 8 64)))).U then some (bA false, []) else (bif !(k == BitVec.ofInt 64 0) then (bif k == 0#64 then none else bif !BitVec.ult (full / k) A.U then some (bA (BitVec.ule (doS 2 true A (Sc.const k)).U (A.U * k)), []) else some (bA true, [])) else some (bA true, []))) else (bif !(k == BitVec.ofInt 64 0) then (bif k == 0#64 then none else bif !BitVec.ult (full / k) A.U then some (bA (BitVec.ule (doS 2 true A (Sc.const k)).U (A.U * k)), []) else some (bA true, [])) else some (bA true, []))))) else (bif BitVec.ult (A.U >>> (BitVec.setWidth 64 (n % BitVec.ofInt 8 64)).toNat) (doS 7 true A (Sc.const (BitVec.setWidth 64 (n % BitVec.ofInt 8 64)))).U then some (bA false, []) else (bif BitVec.ule A.U (full >>> (BitVec.setWidth 64 (n % BitVec.ofInt 8 64)).toNat) then (bif BitVec.ult (A.U <<< (BitVec.setWidth 64 (n % BitVec.ofInt 8 64)).toNat) (doS 6 true A (Sc.const (BitVec.setWidth 64 (n % BitVec.ofInt 8 64)))).U then some (bA false, []) else (bif !(k == BitVec.ofInt 64 0) then (bif k == 0#64 then none else bif !BitVec.ult (full / k) A.U then some (bA (BitVec.ule (doS 2 true A (Sc.const k)).U (A.U * k)), []) else some (bA true, [])) else some (bA true, []))) else (bif !(k == BitVec.ofInt 64 0) then (bif k == 0#64 then none else bif !BitVec.ult (full / k) A.U then some (bA (BitVec.ule (doS 2 true A (Sc.const k)).U (A.U * k)), []) else some (bA true, [])) else some (bA true, []))))))))
theorem evA (a b c d e f g h k : BitVec 64) (n : BitVec 8) : (evalFnL Tryd.prog (lk ((13, (sm [] (gU fun n => sA (Sc.const n)))) :: (12, (sm [] (hIBSS fun op w a b => sA (doS op w a b)))) :: (21, (sm [] (hL4 fun a b c d => sA (mk4 a b c d)))) :: L_lmade)) 20 LL Tryd.f6 (codeOf Tryd.f6) [.p (.many [.w .u64 a, .w .u64 b, .w .u64 c, .w .u64 d]), .p (.many [.w .u64 e, .w .u64 f, .w .u64 g, .w .u64 h]), uA k, .p (.one (.w .u8 n))] []).run = tight (mk4 a b c d) (mk4 e f g h) k n := by kernel_rfl
theorem full_sub (x : BitVec 64) : (full - x).toNat = 18446744073709551615 - x.toNat := by
  have h : full.toNat = 18446744073709551615 := by decide
  have := x.isLt
  rw [BitVec.toNat_sub, h]; omega
theorem by_lt (n : BitVec 8) : (BitVec.setWidth 64 (n % BitVec.ofInt 8 64)).toNat < 64 := by
  have h : (BitVec.ofInt 8 64).toNat = 64 := by decide
  rw [BitVec.toNat_setWidth, BitVec.toNat_umod, h]
  have := Nat.mod_lt n.toNat (by omega : 64 > 0)
  omega
theorem tight_true {A B : Sc} {x y : BitVec 64} (ga : Sc.Good A) (gb : Sc.Good B) (hx : Has A x) (hy : Has B y) (k : BitVec 64) (n : BitVec 8) : tight A B k n = some (bA true, []) := by
  unfold tight
  have hlast : ((bif !(k == BitVec.ofInt 64 0) then (bif k == 0#64 then none else bif !BitVec.ult (full / k) A.U then some (bA (BitVec.ule (doS 2 true A (Sc.const k)).U (A.U * k)), []) else some (bA true, [])) else some (bA true, [])) : Option (AV × Hp)) = some (bA true, []) := by
    cases hk : (k == BitVec.ofInt 64 0) with
    | true => simp only [Bool.not_true, cond_false]
    | false =>
      have hk2 : (k == 0#64) = false := hk
      rw [hk2]
      simp only [Bool.not_false, cond_true, cond_false]
      cases hu : BitVec.ult (full / k) A.U with
      | true => simp only [Bool.not_true, cond_false]
      | false =>
        simp only [Bool.not_false, cond_true]
        have h1 := ult_not.1 hu
        have hf : full.toNat = 18446744073709551615 := by decide
        rw [BitVec.toNat_udiv, hf] at h1
        have hk0 : 0 < k.toNat := by
          rcases Nat.eq_zero_or_pos k.toNat with h0 | h0
          · have : k = 0#64 := BitVec.eq_of_toNat_eq (by rw [h0]; rfl)
            rw [this] at hk2; simp at hk2
          · exact h0
        have h2 : A.U.toNat * k.toNat ≤ 18446744073709551615 := (Nat.le_div_iff_mul_le hk0).1 h1
        rw [ule_iff.2 (mul_tight ga hx (by omega))]
  have h5 : ((bif BitVec.ule A.U (full >>> (BitVec.setWidth 64 (n % BitVec.ofInt 8 64)).toNat) then (bif BitVec.ult (A.U <<< (BitVec.setWidth 64 (n % BitVec.ofInt 8 64)).toNat) (doS 6 true A (Sc.const (BitVec.setWidth 64 (n % BitVec.ofInt 8 64)))).U then some (bA false, []) else (bif !(k == BitVec.ofInt 64 0) then (bif k == 0#64 then none else bif !BitVec.ult (full / k) A.U then some (bA (BitVec.ule (doS 2 true A (Sc.const k)).U (A.U * k)), []) else some (bA true, [])) else some (bA true, []))) else (bif !(k == BitVec.ofInt 64 0) then (bif k == 0#64 then none else bif !BitVec.ult (full / k) A.U then some (bA (BitVec.ule (doS 2 true A (Sc.const k)).U (A.U * k)), []) else some (bA true, [])) else some (bA true, []))) : Option (AV × Hp)) = some (bA true, []) := by
    rw [hlast]
    cases hu : BitVec.ule A.U (full >>> (BitVec.setWidth 64 (n % BitVec.ofInt 8 64)).toNat) with
    | false => simp only [cond_false]
    | true => rw [ult_not.2 (lsh_tight ga hx (by_lt n) hu)]; simp only [cond_true, cond_false]
  have h4 : ((bif BitVec.ult (A.U >>> (BitVec.setWidth 64 (n % BitVec.ofInt 8 64)).toNat) (doS 7 true A (Sc.const (BitVec.setWidth 64 (n % BitVec.ofInt 8 64)))).U then some (bA false, []) else (bif BitVec.ule A.U (full >>> (BitVec.setWidth 64 (n % BitVec.ofInt 8 64)).toNat) then (bif BitVec.ult (A.U <<< (BitVec.setWidth 64 (n % BitVec.ofInt 8 64)).toNat) (doS 6 true A (Sc.const (BitVec.setWidth 64 (n % BitVec.ofInt 8 64)))).U then some (bA false, []) else (bif !(k == BitVec.ofInt 64 0) then (bif k == 0#64 then none else bif !BitVec.ult (full / k) A.U then some (bA (BitVec.ule (doS 2 true A (Sc.const k)).U (A.U * k)), []) else some (bA true, [])) else some (bA true, []))) else (bif !(k == BitVec.ofInt 64 0) then (bif k == 0#64 then none else bif !BitVec.ult (full / k) A.U then some (bA (BitVec.ule (doS 2 true A (Sc.const k)).U (A.U * k)), []) else some (bA true, [])) else some (bA true, [])))) : Option (AV × Hp)) = some (bA true, []) := by
    rw [h5, ult_not.2 (rsh_tight ga hx (by_lt n))]; simp only [cond_false]
  have h3 : ((bif BitVec.ult (BitVec.ofInt 64 0) k then (bif BitVec.ule k (doS 9 true A (Sc.const k)).U then some (bA false, []) else (bif BitVec.ult (A.U >>> (BitVec.setWidth 64 (n % BitVec.ofInt 8 64)).toNat) (doS 7 true A (Sc.const (BitVec.setWidth 64 (n % BitVec.ofInt 8 64)))).U then some (bA false, []) else (bif BitVec.ule A.U (full >>> (BitVec.setWidth 64 (n % BitVec.ofInt 8 64)).toNat) then (bif BitVec.ult (A.U <<< (BitVec.setWidth 64 (n % BitVec.ofInt 8 64)).toNat) (doS 6 true A (Sc.const (BitVec.setWidth 64 (n % BitVec.ofInt 8 64)))).U then some (bA false, []) else (bif !(k == BitVec.ofInt 64 0) then (bif k == 0#64 then none else bif !BitVec.ult (full / k) A.U then some (bA (BitVec.ule (doS 2 true A (Sc.const k)).U (A.U * k)), []) else some (bA true, [])) else some (bA true, []))) else (bif !(k == BitVec.ofInt 64 0) then (bif k == 0#64 then none else bif !BitVec.ult (full / k) A.U then some (bA (BitVec.ule (doS 2 true A (Sc.const k)).U (A.U * k)), []) else some (bA true, [])) else some (bA true, []))))) else (bif BitVec.ult (A.U >>> (BitVec.setWidth 64 (n % BitVec.ofInt 8 64)).toNat) (doS 7 true A (Sc.const (BitVec.setWidth 64 (n % BitVec.ofInt 8 64)))).U then some (bA false, []) else (bif BitVec.ule A.U (full >>> (BitVec.setWidth 64 (n % BitVec.ofInt 8 64)).toNat) then (bif BitVec.ult (A.U <<< (BitVec.setWidth 64 (n % BitVec.ofInt 8 64)).toNat) (doS 6 true A (Sc.const (BitVec.setWidth 64 (n % BitVec.ofInt 8 64)))).U then some (bA false, []) else (bif !(k == BitVec.ofInt 64 0) then (bif k == 0#64 then none else bif !BitVec.ult (full / k) A.U then some (bA (BitVec.ule (doS 2 true A (Sc.const k)).U (A.U * k)), []) else some (bA true, [])) else some (bA true, []))) else (bif !(k == BitVec.ofInt 64 0) then (bif k == 0#64 then none else bif !BitVec.ult (full / k) A.U then some (bA (BitVec.ule (doS 2 true A (Sc.const k)).U (A.U * k)), []) else some (bA true, [])) else some (bA true, []))))) : Option (AV × Hp)) = some (bA true, []) := by
    rw [h4]
    cases hu : BitVec.ult (BitVec.ofInt 64 0) k with
    | false => simp only [cond_false]
    | true =>
      have hk : 0 < k.toNat := by
        have h0 : (BitVec.ofInt 64 0).toNat = 0 := by decide
        have := ult_iff.1 hu; omega
      have := mod_tight ga hx hk
      have h9 : BitVec.ule k (doS 9 true A (Sc.const k)).U = false := by
        cases hh : BitVec.ule k (doS 9 true A (Sc.const k)).U with
        | false => rfl
        | true => have := ule_iff.1 hh; omega
      rw [h9]; simp only [cond_true, cond_false]
  have h2 : ((bif BitVec.ult (minU A.U B.U) (doS 5 true A B).U then some (bA false, []) else (bif BitVec.ult (BitVec.ofInt 64 0) k then (bif BitVec.ule k (doS 9 true A (Sc.const k)).U then some (bA false, []) else (bif BitVec.ult (A.U >>> (BitVec.setWidth 64 (n % BitVec.ofInt 8 64)).toNat) (doS 7 true A (Sc.const (BitVec.setWidth 64 (n % BitVec.ofInt 8 64)))).U then some (bA false, []) else (bif BitVec.ule A.U (full >>> (BitVec.setWidth 64 (n % BitVec.ofInt 8 64)).toNat) then (bif BitVec.ult (A.U <<< (BitVec.setWidth 64 (n % BitVec.ofInt 8 64)).toNat) (doS 6 true A (Sc.const (BitVec.setWidth 64 (n % BitVec.ofInt 8 64)))).U then some (bA false, []) else (bif !(k == BitVec.ofInt 64 0) then (bif k == 0#64 then none else bif !BitVec.ult (full / k) A.U then some (bA (BitVec.ule (doS 2 true A (Sc.const k)).U (A.U * k)), []) else some (bA true, [])) else some (bA true, []))) else (bif !(k == BitVec.ofInt 64 0) then (bif k == 0#64 then none else bif !BitVec.ult (full / k) A.U then some (bA (BitVec.ule (doS 2 true A (Sc.const k)).U (A.U * k)), []) else some (bA true, [])) else some (bA true, []))))) else (bif BitVec.ult (A.U >>> (BitVec.setWidth 64 (n % BitVec.ofInt 8 64)).toNat) (doS 7 true A (Sc.const (BitVec.setWidth 64 (n % BitVec.ofInt 8 64)))).U then some (bA false, []) else (bif BitVec.ule A.U (full >>> (BitVec.setWidth 64 (n % BitVec.ofInt 8 64)).toNat) then (bif BitVec.ult (A.U <<< (BitVec.setWidth 64 (n % BitVec.ofInt 8 64)).toNat) (doS 6 true A (Sc.const (BitVec.setWidth 64 (n % BitVec.ofInt 8 64)))).U then some (bA false, []) else (bif !(k == BitVec.ofInt 64 0) then (bif k == 0#64 then none else bif !BitVec.ult (full / k) A.U then some (bA (BitVec.ule (doS 2 true A (Sc.const k)).U (A.U * k)), []) else some (bA true, [])) else some (bA true, []))) else (bif !(k == BitVec.ofInt 64 0) then (bif k == 0#64 then none else bif !BitVec.ult (full / k) A.U then some (bA (BitVec.ule (doS 2 true A (Sc.const k)).U (A.U * k)), []) else some (bA true, [])) else some (bA true, [])))))) : Option (AV × Hp)) = some (bA true, []) := by
    rw [h3, ult_not.2 (and_tight ga gb hx hy)]; simp only [cond_false]
  have h1 : ((bif BitVec.ule B.U A.u then (bif !BitVec.ult (doS 1 true A B).u (A.u - B.U) then (bif BitVec.ult (A.U - B.u) (doS 1 true A B).U then some (bA false, []) else (bif BitVec.ult (minU A.U B.U) (doS 5 true A B).U then some (bA false, []) else (bif BitVec.ult (BitVec.ofInt 64 0) k then (bif BitVec.ule k (doS 9 true A (Sc.const k)).U then some (bA false, []) else (bif BitVec.ult (A.U >>> (BitVec.setWidth 64 (n % BitVec.ofInt 8 64)).toNat) (doS 7 true A (Sc.const (BitVec.setWidth 64 (n % BitVec.ofInt 8 64)))).U then some (bA false, []) else (bif BitVec.ule A.U (full >>> (BitVec.setWidth 64 (n % BitVec.ofInt 8 64)).toNat) then (bif BitVec.ult (A.U <<< (BitVec.setWidth 64 (n % BitVec.ofInt 8 64)).toNat) (doS 6 true A (Sc.const (BitVec.setWidth 64 (n % BitVec.ofInt 8 64)))).U then some (bA false, []) else (bif !(k == BitVec.ofInt 64 0) then (bif k == 0#64 then none else bif !BitVec.ult (full / k) A.U then some (bA (BitVec.ule (doS 2 true A (Sc.const k)).U (A.U * k)), []) else some (bA true, [])) else some (bA true, []))) else (bif !(k == BitVec.ofInt 64 0) then (bif k == 0#64 then none else bif !BitVec.ult (full / k) A.U then some (bA (BitVec.ule (doS 2 true A (Sc.const k)).U (A.U * k)), []) else some (bA true, [])) else some (bA true, []))))) else (bif BitVec.ult (A.U >>> (BitVec.setWidth 64 (n % BitVec.ofInt 8 64)).toNat) (doS 7 true A (Sc.const (BitVec.setWidth 64 (n % BitVec.ofInt 8 64)))).U then some (bA false, []) else (bif BitVec.ule A.U (full >>> (BitVec.setWidth 64 (n % BitVec.ofInt 8 64)).toNat) then (bif BitVec.ult (A.U <<< (BitVec.setWidth 64 (n % BitVec.ofInt 8 64)).toNat) (doS 6 true A (Sc.const (BitVec.setWidth 64 (n % BitVec.ofInt 8 64)))).U then some (bA false, []) else (bif !(k == BitVec.ofInt 64 0) then (bif k == 0#64 then none else bif !BitVec.ult (full / k) A.U then some (bA (BitVec.ule (doS 2 true A (Sc.const k)).U (A.U * k)), []) else some (bA true, [])) else some (bA true, []))) else (bif !(k == BitVec.ofInt 64 0) then (bif k == 0#64 then none else bif !BitVec.ult (full / k) A.U then some (bA (BitVec.ule (doS 2 true A (Sc.const k)).U (A.U * k)), []) else some (bA true, [])) else some (bA true, []))))))) else some (bA false, [])) else (bif BitVec.ult (minU A.U B.U) (doS 5 true A B).U then some (bA false, []) else (bif BitVec.ult (BitVec.ofInt 64 0) k then (bif BitVec.ule k (doS 9 true A (Sc.const k)).U then some (bA false, []) else (bif BitVec.ult (A.U >>> (BitVec.setWidth 64 (n % BitVec.ofInt 8 64)).toNat) (doS 7 true A (Sc.const (BitVec.setWidth 64 (n % BitVec.ofInt 8 64)))).U then some (bA false, []) else (bif BitVec.ule A.U (full >>> (BitVec.setWidth 64 (n % BitVec.ofInt 8 64)).toNat) then (bif BitVec.ult (A.U <<< (BitVec.setWidth 64 (n % BitVec.ofInt 8 64)).toNat) (doS 6 true A (Sc.const (BitVec.setWidth 64 (n % BitVec.ofInt 8 64)))).U then some (bA false, []) else (bif !(k == BitVec.ofInt 64 0) then (bif k == 0#64 then none else bif !BitVec.ult (full / k) A.U then some (bA (BitVec.ule (doS 2 true A (Sc.const k)).U (A.U * k)), []) else some (bA true, [])) else some (bA true, []))) else (bif !(k == BitVec.ofInt 64 0) then (bif k == 0#64 then none else bif !BitVec.ult (full / k) A.U then some (bA (BitVec.ule (doS 2 true A (Sc.const k)).U (A.U * k)), []) else some (bA true, [])) else some (bA true, []))))) else (bif BitVec.ult (A.U >>> (BitVec.setWidth 64 (n % BitVec.ofInt 8 64)).toNat) (doS 7 true A (Sc.const (BitVec.setWidth 64 (n % BitVec.ofInt 8 64)))).U then some (bA false, []) else (bif BitVec.ule A.U (full >>> (BitVec.setWidth 64 (n % BitVec.ofInt 8 64)).toNat) then (bif BitVec.ult (A.U <<< (BitVec.setWidth 64 (n % BitVec.ofInt 8 64)).toNat) (doS 6 true A (Sc.const (BitVec.setWidth 64 (n % BitVec.ofInt 8 64)))).U then some (bA false, []) else (bif !(k == BitVec.ofInt 64 0) then (bif k == 0#64 then none else bif !BitVec.ult (full / k) A.U then some (bA (BitVec.ule (doS 2 true A (Sc.const k)).U (A.U * k)), []) else some (bA true, [])) else some (bA true, []))) else (bif !(k == BitVec.ofInt 64 0) then (bif k == 0#64 then none else bif !BitVec.ult (full / k) A.U then some (bA (BitVec.ule (doS 2 true A (Sc.const k)).U (A.U * k)), []) else some (bA true, [])) else some (bA true, []))))))) : Option (AV × Hp)) = some (bA true, []) := by
    rw [h2]
    cases hu : BitVec.ule B.U A.u with
    | false => simp only [cond_false]
    | true =>
      have := sub_tight ga gb hx hy hu
      rw [ult_not.2 this.1, ult_not.2 this.2]; simp only [cond_true, cond_false, Bool.not_false]
  rw [h1]
  cases hu : BitVec.ule A.U (full - B.U) with
  | false => simp only [cond_false]
  | true =>
    have h := ule_iff.1 hu
    rw [full_sub] at h
    have := B.U.isLt
    have := add_tight ga gb hx hy (by omega)
    rw [ult_not.2 this.1, ult_not.2 this.2]; simp only [cond_true, cond_false, Bool.not_false]
theorem ev (a b c d e f g h k : BitVec 64) (n : BitVec 8) : (evalFnL Tryd.prog (lk ((13, (sm [] (gU fun n => sA (Sc.const n)))) :: (12, (sm [] (hIBSS fun op w a b => sA (doS op w a b)))) :: (21, (sm [] (hL4 fun a b c d => sA (mk4 a b c d)))) :: L_lmade)) 20 LL Tryd.f6 (codeOf Tryd.f6) [.p (.many [.w .u64 a, .w .u64 b, .w .u64 c, .w .u64 d]), .p (.many [.w .u64 e, .w .u64 f, .w .u64 g, .w .u64 h]), uA k, .p (.one (.w .u8 n))] []).run = some (bA true, []) := by
  refine (evA a b c d e f g h k n).trans ?_
  obtain ⟨ga, ha⟩ := mk4_good a b c d
  obtain ⟨gb, hb⟩ := mk4_good e f g h
  exact tight_true ga gb (ha a (.inl rfl)) (hb e (.inl rfl)) k n

theorem lifted (os : Os) (started : os.Started) : ∀ {H : Type} (enc : TypeId × Value → H), ReturnsInHanded {} Tryd.checked os 6 .any (fun w args => (Rows.scalarTightSpec.pre enc Tryd.prog Tryd.f6 [] false w args ∧ laidMetH Tryd.prog [("math/bits.deBruijn64tab", Rows.laid_math_bits_deBruijn64tab)] w) ∧ sizedMet enc Tryd.prog Tryd.f6 (OpenSpec.ofChange Rows.scalarTightSpec) false w args)
    (Rows.scalarTightSpec.post enc Tryd.prog Tryd.f6 false true false false) := by
  intro H enc
  refine law_lifted_laid (K := Kn) (by kernel_rfl) (by kernel_rfl) started (by kernel_rfl) Tryd.func6 rfl ?_ rfl (by kernel_rfl) ?_ (fun W h => tab_of_laid h)
    (ChangeSpec.witness_at (enc := enc) (C := Tryd.checked) (os := os) (X := fun w _ => laidMetH Tryd.prog [("math/bits.deBruijn64tab", Rows.laid_math_bits_deBruijn64tab)] w) false (laidWorld os) #[.agg #[.int .u64 0, .int .u64 0, .int .u64 0, .int .u64 0], .agg #[.int .u64 0, .int .u64 0, .int .u64 0, .int .u64 0], .int .u64 0, .int .u8 0] 8 rfl (by kernel_rfl) (by kernel_rfl) (by kernel_rfl) (by kernel_rfl) (by kernel_rfl) (laidWorld_met os _)) ?_
  · exact of_decide_eq_true (by kernel_rfl)
  · intro ds hds
    match ds, hds with
    | [d0, d1, d2, d3], _ => rfl
  · refine law_flatL (lk_cons ok_sconst (lk_cons ok_sdo (lk_cons ok_lmade tok_lmade))) Tryd.checked.mixed Tryd.func6 (by rfl) 20 4 lok (sh := [.many [.i .u64, .i .u64, .i .u64, .i .u64], .many [.i .u64, .i .u64, .i .u64, .i .u64], .one (.i .u64), .one (.i .u8)]) (by kernel_rfl) fun l hl => ?_
    obtain ⟨cs0, l0, rfl, ck0, hz0⟩ := FA_many hl
    obtain ⟨a, q0a, rfl, ck0a⟩ := CK_u rfl ck0
    obtain ⟨b, q0b, rfl, ck0b⟩ := CK_u rfl ck0a
    obtain ⟨c, q0c, rfl, ck0c⟩ := CK_u rfl ck0b
    obtain ⟨d, q0d, rfl, ck0d⟩ := CK_u rfl ck0c
    obtain rfl := CK_nil ck0d
    obtain ⟨cs1, l1, rfl, ck1, hz1⟩ := FA_many hz0
    obtain ⟨e, q1a, rfl, ck1a⟩ := CK_u rfl ck1
    obtain ⟨f, q1b, rfl, ck1b⟩ := CK_u rfl ck1a
    obtain ⟨g, q1c, rfl, ck1c⟩ := CK_u rfl ck1b
    obtain ⟨h, q1d, rfl, ck1d⟩ := CK_u rfl ck1c
    obtain rfl := CK_nil ck1d
    obtain ⟨cc2, l2, rfl, ck2, hz2⟩ := FA_one hz1
    obtain ⟨k, rfl⟩ := CK1_u rfl ck2
    obtain ⟨cc3, l3, rfl, ck3, hz3⟩ := FA_one hz2
    obtain ⟨n, rfl⟩ := CK1_u rfl ck3
    cases FA_nil hz3
    exact ev a b c d e f g h k n

theorem over : Rows.scalarTightRow.holds Tryd.pinned (OpenSpec.ofChange Rows.scalarTightSpec) :=
  OpenClaim.holds_of_wide 6 Tryd.f6 rfl rfl rfl rfl rfl rfl rfl ⟨rfl, rfl, rfl, rfl, rfl⟩ rfl rfl rfl rfl rfl (by kernel_rfl) Tryd.func6 (by kernel_rfl)
    (of_decide_eq_true (by kernel_rfl)) (by unfold Func.isWrapper; first | (rw [if_pos (by decide +kernel)]; kernel_rfl) | (rw [if_neg (by decide +kernel)]; exact ⟨rfl, rfl⟩))
    (fun os started H enc _ => lifted os started enc)
theorem holds : Rows.ScalarTightCardSaid :=
  Claim7.holds_tied_plain_at .later [] [.data] true (true, "d3be37834a149cbf1812c319928bc56efe8423ada25c4b3c039826ee47bc29e4") false
    over (fun _ h => by cases h) (by kernel_rfl) (fun _ h => by cases h) scalarTight_row_tie rfl ⟨rfl, rfl⟩ (by kernel_rfl) rfl
    (fun f fn hf hfn => by
      obtain rfl : f = 6 := Option.some.inj ((show Tryd.prog.funcNamed "barbican/barbicanlaw7.ScalarTight" = some 6 by kernel_rfl).symm.trans hf) |>.symm
      obtain rfl : fn = Tryd.f6 := (Option.some.inj (Tryd.func6.symm.trans hfn)).symm
      exact ⟨by kernel_rfl, fun j t ht => by
        have hall : ∀ t ∈ Tryd.f6.params.toList, Tryd.prog.wantsStandIn t = false := of_decide_eq_true (by kernel_rfl)
        exact hall t (Array.mem_toList_iff.2 (Array.mem_of_getElem? ht))⟩)
    (by kernel_rfl)

end
end Go.Proofs.YtlllbgcfhfgaeaaDoor.lScalarTight
