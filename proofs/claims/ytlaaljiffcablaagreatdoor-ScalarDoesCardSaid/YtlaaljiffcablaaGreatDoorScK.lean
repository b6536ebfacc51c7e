/-
  The contracts of package scalar's functions, first part, over this seat's program (written by our own gen_sc.py).
-/
import Derived.Test.YtlaaljiffcablaaGreatDoorMul
import Derived.Test.YtlaaljiffcablaaGreatDoorScQ
import Derived.Test.YtlaaljiffcablaaGreatDoorScG
namespace Go.Proofs.YtlaaljiffcablaaGreatDoor
open Go Go.Sy Go.Tn Go.Sc
set_option linter.unusedSimpArgs false
set_option linter.unusedVariables false
noncomputable section

theorem ev_kbits (a : Sc) : (evalFn Tryz.prog (lk L_mul) 20 Tryz.f47 (codeOf Tryz.f47) [ptr0] [sC a]).run = some (((fun k => (nilA, byBits k)) a).1, [sC ((fun k => (nilA, byBits k)) a).2]) := by
  kernel_rfl
theorem ok_kbits : SummOk Kn Tryz.prog 47 (sm [6] (hK fun k => (nilA, byBits k))) := summ_of tok_mul Tryz.checked.mixed Tryz.func47 (by kernel_rfl) (by rfl) 20 (fun args H v H' h => by
  obtain ⟨a, rfl, rfl, rfl, rfl⟩ := hK_inv h; exact ev_kbits a)
def L_kbits : List (Nat × Summ) := (47, (sm [6] (hK fun k => (nilA, byBits k)))) :: L_mul
theorem tok_kbits : TOk Kn Tryz.prog (lk L_kbits) := lk_cons ok_kbits tok_mul

namespace krange
def path0 : List Nat := [0, 0]
def K0 : List Nat := [0]
def M0 : List Nat := [0, 2, 3]
def orc0 : St → Option (Ex × St)
  | ⟨[(0, .p (.one (.p 0 0)))], [[.w .u64 a1, .w .u64 a2, .w .u64 a3, .w .u64 a4, .v (.int .i64 a5), .v (.int .i64 a6)]]⟩ => some (.normal, ⟨[(0, .p (.one (.p 0 0))), (2, .p (.one (.p 1 0))), (3, bA (meetOk ⟨a1, a2⟩ (range a3 a4)))], [[.w .u64 a1, .w .u64 a2, .w .u64 a3, .w .u64 a4, .v (.int .i64 a5), .v (.int .i64 a6)], [.w .u64 (Tn.meet ⟨a1, a2⟩ (range a3 a4)).v, .w .u64 (Tn.meet ⟨a1, a2⟩ (range a3 a4)).m]]⟩)
  | _ => none
theorem reg0 (a1 a2 a3 a4 : BitVec 64) (a5 a6 : Int) : (drawL Tryz.prog (lk (L_kbits)) Tryz.f48.ntmps (opsAt (codeOf Tryz.f48) path0) (opsAt (codeOf Tryz.f48) path0).size (Array.replicate (opsAt (codeOf Tryz.f48) path0).size false) [] ⟨[(0, .p (.one (.p 0 0)))], [[.w .u64 a1, .w .u64 a2, .w .u64 a3, .w .u64 a4, .v (.int .i64 a5), .v (.int .i64 a6)]]⟩).run.map (List.map (restS M0)) = some (List.replicate 3 ⟨[(0, .p (.one (.p 0 0))), (2, .p (.one (.p 1 0))), (3, bA (meetOk ⟨a1, a2⟩ (range a3 a4)))], [[.w .u64 a1, .w .u64 a2, .w .u64 a3, .w .u64 a4, .v (.int .i64 a5), .v (.int .i64 a6)], [.w .u64 (Tn.meet ⟨a1, a2⟩ (range a3 a4)).v, .w .u64 (Tn.meet ⟨a1, a2⟩ (range a3 a4)).m]]⟩) := by kernel_rfl
def LL : LT := (oneL path0 K0 M0 orc0 noL)
theorem lok : LOk Tryz.prog (lk (L_kbits)) Tryz.f48.ntmps 20 LL (codeOf Tryz.f48) := (lok_regN (noL_ok2 _ _ _ _ _ _) (by kernel_rfl) 3 fun st ex st' h => by
    unfold orc0 at h
    split at h
    · injection h with h
      injection h with h1 h2
      subst h1; subst h2
      exact ⟨rfl, reg0 _ _ _ _ _ _⟩
    · cases h)
end krange
theorem ev_krange (a : Sc) : (evalFnL Tryz.prog (lk L_kbits) 20 krange.LL Tryz.f48 (codeOf Tryz.f48) [ptr0] [sC a]).run = some (nilA, [sC (byRange a)]) := by
  have e : (evalFnL Tryz.prog (lk L_kbits) 20 krange.LL Tryz.f48 (codeOf Tryz.f48) [ptr0] [sC a]).run = bif meetOk a.t (range a.u a.U) then some (nilA, [sC ⟨Tn.meet a.t (range a.u a.U), a.u, a.U, a.s, a.S⟩]) else some (nilA, [sC ⟨a.t, BitVec.ofInt 64 1, BitVec.ofInt 64 0, a.s, a.S⟩]) := by kernel_rfl
  rw [e]
  simp only [byRange]
  cases meetOk a.t (range a.u a.U) <;> rfl
theorem ok_krange : SummOk Kn Tryz.prog 48 (sm [6] (hK fun k => (nilA, byRange k))) := summ_ofL tok_kbits Tryz.checked.mixed Tryz.func48 (by kernel_rfl) (by rfl) 20 krange.lok (fun args H v H' h => by
  obtain ⟨a, rfl, rfl, rfl, rfl⟩ := hK_inv h; exact ev_krange a)
def L_krange : List (Nat × Summ) := (48, (sm [6] (hK fun k => (nilA, byRange k)))) :: L_kbits
theorem tok_krange : TOk Kn Tryz.prog (lk L_krange) := lk_cons ok_krange tok_kbits

theorem ev_kplain (a : Sc) : (evalFn Tryz.prog (lk L_krange) 20 Tryz.f49 (codeOf Tryz.f49) [ptr0] [sC a]).run = some (((fun k => (nilA, byPlain k)) a).1, [sC ((fun k => (nilA, byPlain k)) a).2]) := by
  have e : (evalFn Tryz.prog (lk L_krange) 20 Tryz.f49 (codeOf Tryz.f49) [ptr0] [sC a]).run = bif decide (0 ≤ (a.u ^^^ a.U).toInt) then some (nilA, [sC ⟨a.t, a.u, a.U, maxI a.s a.u.toInt, minI a.S a.U.toInt⟩]) else some (nilA, [sC a]) := by kernel_rfl
  rw [e]
  simp only [byPlain]
  cases decide (0 ≤ (a.u ^^^ a.U).toInt) <;> rfl
theorem ok_kplain : SummOk Kn Tryz.prog 49 (sm [6] (hK fun k => (nilA, byPlain k))) := summ_of tok_krange Tryz.checked.mixed Tryz.func49 (by kernel_rfl) (by rfl) 20 (fun args H v H' h => by
  obtain ⟨a, rfl, rfl, rfl, rfl⟩ := hK_inv h; exact ev_kplain a)
def L_kplain : List (Nat × Summ) := (49, (sm [6] (hK fun k => (nilA, byPlain k)))) :: L_krange
theorem tok_kplain : TOk Kn Tryz.prog (lk L_kplain) := lk_cons ok_kplain tok_krange

theorem ev_ksign (a : Sc) : (evalFn Tryz.prog (lk L_kplain) 20 Tryz.f50 (codeOf Tryz.f50) [ptr0] [sC a]).run = some (((fun k => (nilA, bySign k)) a).1, [sC ((fun k => (nilA, bySign k)) a).2]) := by
  have e : (evalFn Tryz.prog (lk L_kplain) 20 Tryz.f50 (codeOf Tryz.f50) [ptr0] [sC a]).run = bif decide (0 ≤ xorI a.s a.S) then some (nilA, [sC ⟨a.t, maxU a.u (BitVec.ofInt 64 a.s), minU a.U (BitVec.ofInt 64 a.S), a.s, a.S⟩]) else some (nilA, [sC a]) := by kernel_rfl
  rw [e]
  simp only [bySign]
  cases decide (0 ≤ xorI a.s a.S) <;> rfl
theorem ok_ksign : SummOk Kn Tryz.prog 50 (sm [6] (hK fun k => (nilA, bySign k))) := summ_of tok_kplain Tryz.checked.mixed Tryz.func50 (by kernel_rfl) (by rfl) 20 (fun args H v H' h => by
  obtain ⟨a, rfl, rfl, rfl, rfl⟩ := hK_inv h; exact ev_ksign a)
def L_ksign : List (Nat × Summ) := (50, (sm [6] (hK fun k => (nilA, bySign k)))) :: L_kplain
theorem tok_ksign : TOk Kn Tryz.prog (lk L_ksign) := lk_cons ok_ksign tok_kplain

theorem ev_knone (a : Sc) : (evalFn Tryz.prog (lk L_ksign) 20 Tryz.f51 (codeOf Tryz.f51) [ptr0] [sC a]).run = some (((fun k => (bA (none' k), k)) a).1, [sC ((fun k => (bA (none' k), k)) a).2]) := by
  have e : (evalFn Tryz.prog (lk L_ksign) 20 Tryz.f51 (codeOf Tryz.f51) [ptr0] [sC a]).run = bif !!ok a.t then bif !(BitVec.ult a.U a.u) then some (bA (decide (a.S < a.s)), [sC a]) else some (bA true, [sC a]) else some (bA true, [sC a]) := by kernel_rfl
  rw [e]
  simp only [none']
  cases ok a.t <;> cases BitVec.ult a.U a.u <;> rfl
theorem ok_knone : SummOk Kn Tryz.prog 51 (sm [6] (hK fun k => (bA (none' k), k))) := summ_of tok_ksign Tryz.checked.mixed Tryz.func51 (by kernel_rfl) (by rfl) 20 (fun args H v H' h => by
  obtain ⟨a, rfl, rfl, rfl, rfl⟩ := hK_inv h; exact ev_knone a)
def L_knone : List (Nat × Summ) := (51, (sm [6] (hK fun k => (bA (none' k), k)))) :: L_ksign
theorem tok_knone : TOk Kn Tryz.prog (lk L_knone) := lk_cons ok_knone tok_ksign

theorem ev_sunknown  : (evalFn Tryz.prog (lk L_knone) 20 Tryz.f10 (codeOf Tryz.f10) [] []).run = some ((sA all), []) := by
  kernel_rfl
theorem ok_sunknown : SummOk Kn Tryz.prog 10 (sm [] (g0 (sA all))) := summ_of tok_knone Tryz.checked.mixed Tryz.func10 (by kernel_rfl) (by rfl) 20 (fun args H v H' h => by
  obtain ⟨rfl, rfl, rfl, rfl⟩ := g0_inv h; exact ev_sunknown )
def L_sunknown : List (Nat × Summ) := (10, (sm [] (g0 (sA all)))) :: L_knone
theorem tok_sunknown : TOk Kn Tryz.prog (lk L_sunknown) := lk_cons ok_sunknown tok_knone

theorem ev_sconst (a : BitVec 64) : (evalFn Tryz.prog (lk L_sunknown) 20 Tryz.f18 (codeOf Tryz.f18) [uA a] []).run = some ((fun n => sA (Sc.const n)) a, []) := by
  kernel_rfl
theorem ok_sconst : SummOk Kn Tryz.prog 18 (sm [] (gU fun n => sA (Sc.const n))) := summ_of tok_sunknown Tryz.checked.mixed Tryz.func18 (by kernel_rfl) (by rfl) 20 (fun args H v H' h => by
  obtain ⟨a, rfl, rfl, rfl, rfl⟩ := gU_inv h; exact ev_sconst a)
def L_sconst : List (Nat × Summ) := (18, (sm [] (gU fun n => sA (Sc.const n)))) :: L_sunknown
theorem tok_sconst : TOk Kn Tryz.prog (lk L_sconst) := lk_cons ok_sconst tok_sunknown

theorem ev_sisConst (a : Sc) : (evalFn Tryz.prog (lk L_sconst) 20 Tryz.f25 (codeOf Tryz.f25) [sA a] []).run = some ((fun k => bA (isConst k)) a, []) := by
  kernel_rfl
theorem ok_sisConst : SummOk Kn Tryz.prog 25 (sm [] (hS fun k => bA (isConst k))) := summ_of tok_sconst Tryz.checked.mixed Tryz.func25 (by kernel_rfl) (by rfl) 20 (fun args H v H' h => by
  obtain ⟨a, rfl, rfl, rfl, rfl⟩ := hS_inv h; exact ev_sisConst a)
def L_sisConst : List (Nat × Summ) := (25, (sm [] (hS fun k => bA (isConst k)))) :: L_sconst
theorem tok_sisConst : TOk Kn Tryz.prog (lk L_sisConst) := lk_cons ok_sisConst tok_sconst

theorem ev_shas (a : Sc) (n : BitVec 64) : (evalFn Tryz.prog (lk L_sisConst) 20 Tryz.f7 (codeOf Tryz.f7) [sA a, uA n] []).run = some ((fun k n => bA (Sc.has k n)) a n, []) := by
  have e : (evalFn Tryz.prog (lk L_sisConst) 20 Tryz.f7 (codeOf Tryz.f7) [sA a, uA n] []).run = bif Tn.has a.t n then bif BitVec.ule a.u n then bif BitVec.ule n a.U then bif decide (a.s ≤ n.toInt) then some (bA (decide (n.toInt ≤ a.S)), []) else some (bA false, []) else some (bA false, []) else some (bA false, []) else some (bA false, []) := by kernel_rfl
  rw [e]
  simp only [Sc.has]
  cases Tn.has a.t n <;> cases BitVec.ule a.u n <;> cases BitVec.ule n a.U <;> cases decide (a.s ≤ n.toInt) <;> rfl
theorem ok_shas : SummOk Kn Tryz.prog 7 (sm [] (hSU fun k n => bA (Sc.has k n))) := summ_of tok_sisConst Tryz.checked.mixed Tryz.func7 (by kernel_rfl) (by rfl) 20 (fun args H v H' h => by
  obtain ⟨a, n, rfl, rfl, rfl, rfl⟩ := hSU_inv h; exact ev_shas a n)
def L_shas : List (Nat × Summ) := (7, (sm [] (hSU fun k n => bA (Sc.has k n)))) :: L_sisConst
theorem tok_shas : TOk Kn Tryz.prog (lk L_shas) := lk_cons ok_shas tok_sisConst

theorem ev_plusS (a b : Int) : (evalFn Tryz.prog (lk L_shas) 20 Tryz.f90 (codeOf Tryz.f90) [iA a, iA b] []).run = some ((fun a b => ibA (addI a b) (ovA a b)) a b, []) := by
  kernel_rfl
theorem ok_plusS : SummOk Kn Tryz.prog 90 (sm [] (hII fun a b => ibA (addI a b) (ovA a b))) := summ_of tok_shas Tryz.checked.mixed Tryz.func90 (by kernel_rfl) (by rfl) 20 (fun args H v H' h => by
  obtain ⟨a, b, rfl, rfl, rfl, rfl⟩ := hII_inv h; exact ev_plusS a b)
def L_plusS : List (Nat × Summ) := (90, (sm [] (hII fun a b => ibA (addI a b) (ovA a b)))) :: L_shas
theorem tok_plusS : TOk Kn Tryz.prog (lk L_plusS) := lk_cons ok_plusS tok_shas

theorem ev_minusS (a b : Int) : (evalFn Tryz.prog (lk L_plusS) 20 Tryz.f91 (codeOf Tryz.f91) [iA a, iA b] []).run = some ((fun a b => ibA (subI a b) (ovS a b)) a b, []) := by
  kernel_rfl
theorem ok_minusS : SummOk Kn Tryz.prog 91 (sm [] (hII fun a b => ibA (subI a b) (ovS a b))) := summ_of tok_plusS Tryz.checked.mixed Tryz.func91 (by kernel_rfl) (by rfl) 20 (fun args H v H' h => by
  obtain ⟨a, b, rfl, rfl, rfl, rfl⟩ := hII_inv h; exact ev_minusS a b)
def L_minusS : List (Nat × Summ) := (91, (sm [] (hII fun a b => ibA (subI a b) (ovS a b)))) :: L_plusS
theorem tok_minusS : TOk Kn Tryz.prog (lk L_minusS) := lk_cons ok_minusS tok_plusS

theorem ev_snarrow (a : Sc) : (evalFn Tryz.prog (lk L_minusS) 20 Tryz.f42 (codeOf Tryz.f42) [sA a] []).run = some ((fun k => bA (narrow k)) a, []) := by
  kernel_rfl
theorem ok_snarrow : SummOk Kn Tryz.prog 42 (sm [] (hS fun k => bA (narrow k))) := summ_of tok_minusS Tryz.checked.mixed Tryz.func42 (by kernel_rfl) (by rfl) 20 (fun args H v H' h => by
  obtain ⟨a, rfl, rfl, rfl, rfl⟩ := hS_inv h; exact ev_snarrow a)
def L_snarrow : List (Nat × Summ) := (42, (sm [] (hS fun k => bA (narrow k)))) :: L_minusS
theorem tok_snarrow : TOk Kn Tryz.prog (lk L_snarrow) := lk_cons ok_snarrow tok_minusS

theorem ev_turned (a : Int) : (evalFn Tryz.prog (lk L_snarrow) 20 Tryz.f80 (codeOf Tryz.f80) [iA a] []).run = some ((fun a => iA (turned a)) a, []) := by
  have e : (evalFn Tryz.prog (lk L_snarrow) 20 Tryz.f80 (codeOf Tryz.f80) [iA a] []).run = bif decide (a = 2) then some (iA 10, []) else bif decide (a = 3) then some (iA 11, []) else bif decide (a = 10) then some (iA 2, []) else bif decide (a = 11) then some (iA 3, []) else bif decide (a = 6) then some (iA 12, []) else bif decide (a = 7) then some (iA 13, []) else bif decide (a = 12) then some (iA 6, []) else bif decide (a = 13) then some (iA 7, []) else some (iA a, []) := by kernel_rfl
  rw [e]
  simp only [turned]
  cases decide (a = 2) <;> simp only [cond_true, cond_false]
  cases decide (a = 3) <;> simp only [cond_true, cond_false]
  cases decide (a = 10) <;> simp only [cond_true, cond_false]
  cases decide (a = 11) <;> simp only [cond_true, cond_false]
  cases decide (a = 6) <;> simp only [cond_true, cond_false]
  cases decide (a = 7) <;> simp only [cond_true, cond_false]
  cases decide (a = 12) <;> simp only [cond_true, cond_false]
  cases decide (a = 13) <;> simp only [cond_true, cond_false]
theorem ok_turned : SummOk Kn Tryz.prog 80 (sm [] (hI fun a => iA (turned a))) := summ_of tok_snarrow Tryz.checked.mixed Tryz.func80 (by kernel_rfl) (by rfl) 20 (fun args H v H' h => by
  obtain ⟨a, rfl, rfl, rfl, rfl⟩ := hI_inv h; exact ev_turned a)
def L_turned : List (Nat × Summ) := (80, (sm [] (hI fun a => iA (turned a)))) :: L_snarrow
theorem tok_turned : TOk Kn Tryz.prog (lk L_turned) := lk_cons ok_turned tok_snarrow

theorem ev_contrary (a : Int) : (evalFn Tryz.prog (lk L_turned) 20 Tryz.f46 (codeOf Tryz.f46) [iA a] []).run = some ((fun a => iA (contrary a)) a, []) := by
  have e : (evalFn Tryz.prog (lk L_turned) 20 Tryz.f46 (codeOf Tryz.f46) [iA a] []).run = bif decide (a = 1) then some (iA 5, []) else bif decide (a = 5) then some (iA 1, []) else bif decide (a = 2) then some (iA 11, []) else bif decide (a = 11) then some (iA 2, []) else bif decide (a = 3) then some (iA 10, []) else bif decide (a = 10) then some (iA 3, []) else bif decide (a = 6) then some (iA 13, []) else bif decide (a = 13) then some (iA 6, []) else bif decide (a = 7) then some (iA 12, []) else some (iA 7, []) := by kernel_rfl
  rw [e]
  simp only [contrary]
  cases decide (a = 1) <;> simp only [cond_true, cond_false]
  cases decide (a = 5) <;> simp only [cond_true, cond_false]
  cases decide (a = 2) <;> simp only [cond_true, cond_false]
  cases decide (a = 11) <;> simp only [cond_true, cond_false]
  cases decide (a = 3) <;> simp only [cond_true, cond_false]
  cases decide (a = 10) <;> simp only [cond_true, cond_false]
  cases decide (a = 6) <;> simp only [cond_true, cond_false]
  cases decide (a = 13) <;> simp only [cond_true, cond_false]
  cases decide (a = 7) <;> simp only [cond_true, cond_false]
theorem ok_contrary : SummOk Kn Tryz.prog 46 (sm [] (hI fun a => iA (contrary a))) := summ_of tok_turned Tryz.checked.mixed Tryz.func46 (by kernel_rfl) (by rfl) 20 (fun args H v H' h => by
  obtain ⟨a, rfl, rfl, rfl, rfl⟩ := hI_inv h; exact ev_contrary a)
def L_contrary : List (Nat × Summ) := (46, (sm [] (hI fun a => iA (contrary a)))) :: L_turned
theorem tok_contrary : TOk Kn Tryz.prog (lk L_contrary) := lk_cons ok_contrary tok_turned

namespace sync
def path : List Nat := [0, 1, 1, 1, 0, 1]
def K : List Nat := [2, 3, 4, 5]
def K2 : List Nat := [2, 3]
@[reducible] def fs : List Cell := [.clo 47 [], .clo 48 [], .clo 49 [], .clo 50 []]
@[reducible] def hd (a z k : Sc) : St := ⟨[(2, .p (.one (.p 1 0))), (3, bA false), (4, .p (.one (.p 2 0))), (5, .p (.one (.p 3 0)))], [sC a, sC z, sC k, fs]⟩
@[reducible] def out (a x k : Sc) (b : Bool) : St := ⟨[(2, .p (.one (.p 1 0))), (3, bA b)], [sC a, sC x, sC k, fs]⟩
def orc : St → Option (Ex × St)
  | ⟨[(2, .p (.one (.p 1 0))), (3, .p (.one (.v (.bool false)))), (4, .p (.one (.p 2 0))), (5, .p (.one (.p 3 0)))], [[.w .u64 a1, .w .u64 a2, .w .u64 a3, .w .u64 a4, .v (.int .i64 a5), .v (.int .i64 a6)], [.w .u64 z1, .w .u64 z2, .w .u64 z3, .w .u64 z4, .v (.int .i64 z5), .v (.int .i64 z6)], [.w .u64 k1, .w .u64 k2, .w .u64 k3, .w .u64 k4, .v (.int .i64 k5), .v (.int .i64 k6)], [.clo 47 [], .clo 48 [], .clo 49 [], .clo 50 []]]⟩ => some (.ret, out ⟨⟨a1, a2⟩, a3, a4, a5, a6⟩ (syncF ⟨⟨k1, k2⟩, k3, k4, k5, k6⟩) (syncK ⟨⟨k1, k2⟩, k3, k4, k5, k6⟩) (syncB ⟨⟨k1, k2⟩, k3, k4, k5, k6⟩))
  | _ => none
def LL : LT := oneL path K K2 orc noL
theorem step (a z k : Sc) (n : Nat) : (loopC (evalCode Tryz.prog (lk L_contrary) Tryz.f20.ntmps 20 LL (bodyAt (codeOf Tryz.f20) path) (0 :: path)) K K2 4 (n + 1) (hd a z k)).run =
    bif none' k then some (.ret, out a zero k false) else bif none' (byBits k) then some (.ret, out a zero (byBits k) false) else bif none' (byRange (byBits k)) then some (.ret, out a zero (byRange (byBits k)) false) else
    bif none' (byPlain (byRange (byBits k))) then some (.ret, out a zero (byPlain (byRange (byBits k))) false) else bif none' (bySign (byPlain (byRange (byBits k)))) then some (.ret, out a zero (bySign (byPlain (byRange (byBits k)))) false) else
    bif !eqS (bySign (byPlain (byRange (byBits k)))) k then (loopC (evalCode Tryz.prog (lk L_contrary) Tryz.f20.ntmps 20 LL (bodyAt (codeOf Tryz.f20) path) (0 :: path)) K K2 4 n (hd a z (bySign (byPlain (byRange (byBits k)))))).run else some (.ret, out a (bySign (byPlain (byRange (byBits k)))) (bySign (byPlain (byRange (byBits k)))) true) := by kernel_rfl
theorem step' (a z k : Sc) (n : Nat) : (loopC (evalCode Tryz.prog (lk L_contrary) Tryz.f20.ntmps 20 LL (bodyAt (codeOf Tryz.f20) path) (0 :: path)) K K2 4 (n + 1) (hd a z k)).run =
    bif (stepK k).2 then (bif eqS (stepK k).1 k then some (.ret, out a (stepK k).1 (stepK k).1 true) else (loopC (evalCode Tryz.prog (lk L_contrary) Tryz.f20.ntmps 20 LL (bodyAt (codeOf Tryz.f20) path) (0 :: path)) K K2 4 n (hd a z (stepK k).1)).run) else some (.ret, out a zero (stepK k).1 false) := by
  rw [step]
  unfold stepK
  cases none' k with
  | true => simp only [cond_true, cond_false]
  | false =>
    cases none' (byBits k) with
    | true => simp only [cond_true, cond_false]
    | false =>
      cases none' (byRange (byBits k)) with
      | true => simp only [cond_true, cond_false]
      | false =>
        cases none' (byPlain (byRange (byBits k))) with
        | true => simp only [cond_true, cond_false]
        | false =>
          cases none' (bySign (byPlain (byRange (byBits k)))) with
          | true => simp only [cond_true, cond_false, Bool.not_true]
          | false =>
            simp only [cond_true, cond_false, Bool.not_false]
            cases eqS (bySign (byPlain (byRange (byBits k)))) k <;> simp only [cond_true, cond_false, Bool.not_true, Bool.not_false]
theorem whole (a z : Sc) : ∀ (n : Nat) (k : Sc) (x : Sc) (y : Option Sc), syncKE n k = some (x, y) → (loopC (evalCode Tryz.prog (lk L_contrary) Tryz.f20.ntmps 20 LL (bodyAt (codeOf Tryz.f20) path) (0 :: path)) K K2 4 n (hd a z k)).run = some (.ret, out a (y.getD zero) x y.isSome)
  | 0, _, _, _, h => by cases h
  | n + 1, k, x, y, h => by
    rw [step']
    unfold syncKE at h
    cases hs : (stepK k).2 with
    | false =>
      rw [hs] at h
      simp only [cond_false, Option.some.injEq, Prod.mk.injEq] at h
      obtain ⟨h1, h2⟩ := h
      rw [← h1, ← h2]; simp only [cond_false]; rfl
    | true =>
      rw [hs] at h
      simp only [cond_true] at h ⊢
      cases he : eqS (stepK k).1 k with
      | true =>
        rw [he] at h
        simp only [cond_true, Option.some.injEq, Prod.mk.injEq] at h ⊢
        obtain ⟨h1, h2⟩ := h
        rw [← h1, ← h2]; exact ⟨trivial, rfl⟩
      | false =>
        rw [he] at h
        simp only [cond_false] at h ⊢
        exact whole a z n _ x y h
theorem lok : LOk Tryz.prog (lk L_contrary) Tryz.f20.ntmps 20 LL (codeOf Tryz.f20) := lok_oneL (noL_ok2 _ _ _ _ _ _) (by kernel_rfl) fun st ex st' h => by
  unfold orc at h
  split at h
  · rename_i a1 a2 a3 a4 a5 a6 z1 z2 z3 z4 z5 z6 k1 k2 k3 k4 k5 k6
    injection h with h
    injection h with h1 h2
    subst h1; subst h2
    exact ⟨fuel ⟨⟨k1, k2⟩, k3, k4, k5, k6⟩, 4, rfl, whole ⟨⟨a1, a2⟩, a3, a4, a5, a6⟩ ⟨⟨z1, z2⟩, z3, z4, z5, z6⟩ _ ⟨⟨k1, k2⟩, k3, k4, k5, k6⟩ _ _ (syncKE_eq ⟨⟨k1, k2⟩, k3, k4, k5, k6⟩)⟩
  · cases h
end sync

theorem ev_sync (a : Sc) : (evalFnL Tryz.prog (lk L_contrary) 20 sync.LL Tryz.f20 (codeOf Tryz.f20) [sA a] []).run = some (sbA (syncF a) (syncB a), []) := by
  kernel_rfl
theorem ok_sync : SummOk Kn Tryz.prog 20 (sm [] (hS fun k => sbA (syncF k) (syncB k))) := summ_ofL tok_contrary Tryz.checked.mixed Tryz.func20 (by kernel_rfl) (by rfl) 20 sync.lok (fun args H v H' h => by
  obtain ⟨a, rfl, rfl, rfl, rfl⟩ := hS_inv h; exact ev_sync a)
def L_sync : List (Nat × Summ) := (20, (sm [] (hS fun k => sbA (syncF k) (syncB k)))) :: L_contrary
theorem tok_sync : TOk Kn Tryz.prog (lk L_sync) := lk_cons ok_sync tok_contrary

theorem ev_sis (a : Sc) : (evalFn Tryz.prog (lk L_sync) 20 Tryz.f6 (codeOf Tryz.f6) [sA a] []).run = some ((fun k => bA (is k)) a, []) := by
  have e : (evalFn Tryz.prog (lk L_sync) 20 Tryz.f6 (codeOf Tryz.f6) [sA a] []).run = bif syncB a then some (bA (eqS (syncF a) a), []) else some (bA false, []) := by kernel_rfl
  rw [e]
  simp only [is, syncB, syncF]
  cases sync a <;> rfl
theorem ok_sis : SummOk Kn Tryz.prog 6 (sm [] (hS fun k => bA (is k))) := summ_of tok_sync Tryz.checked.mixed Tryz.func6 (by kernel_rfl) (by rfl) 20 (fun args H v H' h => by
  obtain ⟨a, rfl, rfl, rfl, rfl⟩ := hS_inv h; exact ev_sis a)
def L_sis : List (Nat × Summ) := (6, (sm [] (hS fun k => bA (is k)))) :: L_sync
theorem tok_sis : TOk Kn Tryz.prog (lk L_sis) := lk_cons ok_sis tok_sync

theorem ev_ssynced (a : Sc) : (evalFn Tryz.prog (lk L_sis) 20 Tryz.f27 (codeOf Tryz.f27) [sA a] []).run = some ((fun k => sA (synced k)) a, []) := by
  have e : (evalFn Tryz.prog (lk L_sis) 20 Tryz.f27 (codeOf Tryz.f27) [sA a] []).run = bif syncB a then some (sA (syncF a), []) else some (sA all, []) := by kernel_rfl
  rw [e]
  simp only [synced, syncB, syncF]
  cases sync a <;> rfl
theorem ok_ssynced : SummOk Kn Tryz.prog 27 (sm [] (hS fun k => sA (synced k))) := summ_of tok_sis Tryz.checked.mixed Tryz.func27 (by kernel_rfl) (by rfl) 20 (fun args H v H' h => by
  obtain ⟨a, rfl, rfl, rfl, rfl⟩ := hS_inv h; exact ev_ssynced a)
def L_ssynced : List (Nat × Summ) := (27, (sm [] (hS fun k => sA (synced k)))) :: L_sis
theorem tok_ssynced : TOk Kn Tryz.prog (lk L_ssynced) := lk_cons ok_ssynced tok_sis

theorem ev_sright (a : Sc) : (evalFn Tryz.prog (lk L_ssynced) 20 Tryz.f24 (codeOf Tryz.f24) [sA a] []).run = some ((fun k => sA (Sc.right k)) a, []) := by
  have e : (evalFn Tryz.prog (lk L_ssynced) 20 Tryz.f24 (codeOf Tryz.f24) [sA a] []).run = bif is a then some (sA a, []) else some (sA all, []) := by kernel_rfl
  rw [e]
  simp only [Sc.right]
  cases is a <;> rfl
theorem ok_sright : SummOk Kn Tryz.prog 24 (sm [] (hS fun k => sA (Sc.right k))) := summ_of tok_ssynced Tryz.checked.mixed Tryz.func24 (by kernel_rfl) (by rfl) 20 (fun args H v H' h => by
  obtain ⟨a, rfl, rfl, rfl, rfl⟩ := hS_inv h; exact ev_sright a)
def L_sright : List (Nat × Summ) := (24, (sm [] (hS fun k => sA (Sc.right k)))) :: L_ssynced
theorem tok_sright : TOk Kn Tryz.prog (lk L_sright) := lk_cons ok_sright tok_ssynced

end
end Go.Proofs.YtlaaljiffcablaaGreatDoor
