/-
  The contracts of the laws' helpers: known, made (written by our own gen_sc8.py).
-/
import Derived.Test.YtlaaljiffcablaaGreatDoorScU
namespace Go.Proofs.YtlaaljiffcablaaGreatDoor
open Go Go.Sy Go.Tn Go.Sc
set_option linter.unusedSimpArgs false
set_option linter.unusedVariables false
noncomputable section

theorem kn_bt : between (BitVec.ofInt 64 0) (BitVec.ofInt 64 7) = ⟨⟨BitVec.ofInt 64 0, BitVec.ofInt 64 7⟩, BitVec.ofInt 64 0, BitVec.ofInt 64 7, 0, 7⟩ := by
  have h : sync ⟨unknown, BitVec.ofInt 64 0, BitVec.ofInt 64 7, iMin, iMax⟩ = some ⟨⟨BitVec.ofInt 64 0, BitVec.ofInt 64 7⟩, BitVec.ofInt 64 0, BitVec.ofInt 64 7, 0, 7⟩ := sync_of (n := 6) (by kernel_rfl)
  unfold between synced
  rw [h]; rfl
theorem kn_a : doS 0 true (between (BitVec.ofInt 64 0) (BitVec.ofInt 64 7)) (Sc.const (BitVec.ofInt 64 8)) = ⟨⟨BitVec.ofInt 64 8, BitVec.ofInt 64 7⟩, BitVec.ofInt 64 8, BitVec.ofInt 64 15, 8, 15⟩ := by
  rw [doS_eq (between_good _ _).1 (const_good _), kn_bt]
  have h : sync (whole 0 ⟨⟨BitVec.ofInt 64 0, BitVec.ofInt 64 7⟩, BitVec.ofInt 64 0, BitVec.ofInt 64 7, 0, 7⟩ (Sc.const (BitVec.ofInt 64 8))) = some ⟨⟨BitVec.ofInt 64 8, BitVec.ofInt 64 7⟩, BitVec.ofInt 64 8, BitVec.ofInt 64 15, 8, 15⟩ := sync_of (n := 6) (by kernel_rfl)
  show synced _ = _
  unfold synced
  rw [h]; rfl
theorem kn_b : branch 2 true false all (Sc.const (BitVec.ofInt 64 9)) = some (⟨⟨BitVec.ofInt 64 0, BitVec.ofInt 64 15⟩, BitVec.ofInt 64 0, BitVec.ofInt 64 9, 0, 9⟩, Sc.const (BitVec.ofInt 64 9)) := by
  unfold branch
  rw [right_of all_good.st, right_of (const_good _).st]
  have hd : decided 2 true all (Sc.const (BitVec.ofInt 64 9)) = (false, false) := by
    unfold decided
    rw [right_of all_good.st, right_of (const_good _).st]
    decide +kernel
  have h1 : sync ⟨unknown, BitVec.ofInt 64 0, BitVec.ofInt 64 9, iMin, iMax⟩ = some ⟨⟨BitVec.ofInt 64 0, BitVec.ofInt 64 15⟩, BitVec.ofInt 64 0, BitVec.ofInt 64 9, 0, 9⟩ := sync_of (n := 6) (by kernel_rfl)
  have h2 : sync (Sc.const (BitVec.ofInt 64 9)) = some (Sc.const (BitVec.ofInt 64 9)) := sync_of (n := 6) (by kernel_rfl)
  unfold branch'
  rw [hd]
  have hg : goes 2 false ⟨all, Sc.const (BitVec.ofInt 64 9), false⟩ = ⟨⟨unknown, BitVec.ofInt 64 0, BitVec.ofInt 64 9, iMin, iMax⟩, Sc.const (BitVec.ofInt 64 9), false⟩ := by rfl
  show close2 (goes 2 false ⟨all, Sc.const (BitVec.ofInt 64 9), false⟩) = _
  rw [hg]
  unfold close2
  rw [h1, h2]; rfl
theorem evA_lknown (DO : Int → Bool → Sc → Sc → Sc) (BT : BitVec 64 → BitVec 64 → Sc) (KO : BitVec 64 → Sc) (ALL : Sc) (BA BB : Int → Bool → Bool → Sc → Sc → Sc) (BO : Int → Bool → Bool → Sc → Sc → Bool)  : (evalFn Tryz.prog (lk ((19, (sm [] (hIBBSS fun op w t a b => ssbA (BA op w t a b) (BB op w t a b) (BO op w t a b)))) :: (10, (sm [] (g0 (sA ALL)))) :: (18, (sm [] (gU fun n => sA (KO n)))) :: (17, (sm [] (gUU fun l m => sA (BT l m)))) :: (9, (sm [] (hIBSS fun op w a b => sA (DO op w a b)))) :: L_sbranch)) 20 Tryz.f4 (codeOf Tryz.f4) [] []).run = bif BO 2 true false ALL (KO (BitVec.ofInt 64 9)) then bif (DO 0 true (BT (BitVec.ofInt 64 0) (BitVec.ofInt 64 7)) (KO (BitVec.ofInt 64 8))).u == BitVec.ofInt 64 8 then bif (DO 0 true (BT (BitVec.ofInt 64 0) (BitVec.ofInt 64 7)) (KO (BitVec.ofInt 64 8))).U == BitVec.ofInt 64 15 then bif (BA 2 true false ALL (KO (BitVec.ofInt 64 9))).u == BitVec.ofInt 64 0 then bif (BA 2 true false ALL (KO (BitVec.ofInt 64 9))).U == BitVec.ofInt 64 9 then bif (BA 2 true false ALL (KO (BitVec.ofInt 64 9))).s == 0 then some (bA ((BA 2 true false ALL (KO (BitVec.ofInt 64 9))).S == 9), []) else some (bA false, []) else some (bA false, []) else some (bA false, []) else some (bA false, []) else some (bA false, []) else some (bA false, []) := by kernel_rfl
theorem ev_lknown  : (evalFn Tryz.prog (lk ((19, (sm [] (hIBBSS fun op w t a b => ssbA (brA op w t a b) (brB op w t a b) (brO op w t a b)))) :: (10, (sm [] (g0 (sA all)))) :: (18, (sm [] (gU fun n => sA (Sc.const n)))) :: (17, (sm [] (gUU fun l m => sA (between l m)))) :: (9, (sm [] (hIBSS fun op w a b => sA (doS op w a b)))) :: L_sbranch)) 20 Tryz.f4 (codeOf Tryz.f4) [] []).run = some (bA true, []) := by
  refine (evA_lknown doS between Sc.const all brA brB brO ).trans ?_
  unfold brA brO
  rw [kn_a, kn_b]
  rfl
theorem ok_lknown : SummOk Kn Tryz.prog 4 (sm [] (g0 (bA true))) := summ_of (lk_cons ok_sbranch (lk_cons ok_sunknown (lk_cons ok_sconst (lk_cons ok_sbetween (lk_cons ok_sdo tok_sbranch))))) Tryz.checked.mixed Tryz.func4 (by kernel_rfl) (by rfl) 20 (fun args H v H' h => by
  obtain ⟨rfl, rfl, rfl, rfl⟩ := g0_inv h; exact ev_lknown )
def L_lknown : List (Nat × Summ) := (4, (sm [] (g0 (bA true)))) :: L_sbranch
theorem tok_lknown : TOk Kn Tryz.prog (lk L_lknown) := lk_cons ok_lknown tok_sbranch

theorem evA_lmade (J : Sc → Sc → Sc) (KO : BitVec 64 → Sc) (a b c d : BitVec 64) : (evalFn Tryz.prog (lk ((18, (sm [] (gU fun n => sA (KO n)))) :: (15, (sm [] (hSS fun a b => sA (J a b)))) :: L_lknown)) 20 Tryz.f5 (codeOf Tryz.f5) [.p (.one (.s 0 0 1 4 4))] [[.w .u64 a, .w .u64 b, .w .u64 c, .w .u64 d]]).run = some (sA (J (J (J (KO a) (KO b)) (KO c)) (KO d)), [[.w .u64 a, .w .u64 b, .w .u64 c, .w .u64 d]]) := by kernel_rfl
theorem ev_lmade (a b c d : BitVec 64) : (evalFn Tryz.prog (lk ((18, (sm [] (gU fun n => sA (Sc.const n)))) :: (15, (sm [] (hSS fun a b => sA (Sc.join a b)))) :: L_lknown)) 20 Tryz.f5 (codeOf Tryz.f5) [.p (.one (.s 0 0 1 4 4))] [[.w .u64 a, .w .u64 b, .w .u64 c, .w .u64 d]]).run = some (sA (mk4 a b c d), [[.w .u64 a, .w .u64 b, .w .u64 c, .w .u64 d]]) := by
  refine (evA_lmade Sc.join Sc.const a b c d).trans ?_
  rfl
theorem ok_lmade : SummOk Kn Tryz.prog 5 (sm [] (hL4 fun a b c d => sA (mk4 a b c d))) := summ_of (lk_cons ok_sconst (lk_cons ok_sjoin tok_lknown)) Tryz.checked.mixed Tryz.func5 (by kernel_rfl) (by rfl) 20 (fun args H v H' h => by
  obtain ⟨a, b, c, d, rfl, rfl, rfl, rfl⟩ := hL4_inv h; exact ev_lmade a b c d)
def L_lmade : List (Nat × Summ) := (5, (sm [] (hL4 fun a b c d => sA (mk4 a b c d)))) :: L_lknown
theorem tok_lmade : TOk Kn Tryz.prog (lk L_lmade) := lk_cons ok_lmade tok_lknown

end
end Go.Proofs.YtlaaljiffcablaaGreatDoor
