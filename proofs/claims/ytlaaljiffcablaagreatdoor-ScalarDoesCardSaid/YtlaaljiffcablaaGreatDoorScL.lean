/-
  The contracts of package scalar's functions, second part, over this seat's program (written by our own gen_sc2.py).
-/
import Derived.Test.YtlaaljiffcablaaGreatDoorScK
namespace Go.Proofs.YtlaaljiffcablaaGreatDoor
open Go Go.Sy Go.Tn Go.Sc
set_option linter.unusedSimpArgs false
set_option linter.unusedVariables false
noncomputable section

theorem all_uU (a b : BitVec 64) : (⟨⟨all.t.v, all.t.m⟩, a, b, all.s, all.S⟩ : Sc) = ⟨unknown, a, b, iMin, iMax⟩ := rfl
theorem all_tuU (t : Tn) (a b : BitVec 64) : (⟨⟨t.v, t.m⟩, a, b, all.s, all.S⟩ : Sc) = ⟨t, a, b, iMin, iMax⟩ := rfl
theorem all_t (t : Tn) : (⟨⟨t.v, t.m⟩, all.u, all.U, all.s, all.S⟩ : Sc) = base t := rfl
noncomputable def meetF (a b : Sc) : Sc := (meetS a b).getD Sc.zero
noncomputable def meetB (a b : Sc) : Bool := (meetS a b).isSome
noncomputable def decA (op : Int) (w : Bool) (a b : Sc) : Bool := (decided op w a b).1
noncomputable def decB (op : Int) (w : Bool) (a b : Sc) : Bool := (decided op w a b).2

theorem evA_sbetween (Y : Sc → Sc) (a b : BitVec 64) : (evalFn Tryz.prog (lk ((27, (sm [] (hS fun k => sA (Y k)))) :: L_sright)) 20 Tryz.f17 (codeOf Tryz.f17) [uA a, uA b] []).run = bif BitVec.ult b a then some (sA all, []) else some (sA (Y ⟨⟨all.t.v, all.t.m⟩, a, b, all.s, all.S⟩), []) := by kernel_rfl
theorem ev_sbetween (a b : BitVec 64) : (evalFn Tryz.prog (lk ((27, (sm [] (hS fun k => sA (synced k)))) :: L_sright)) 20 Tryz.f17 (codeOf Tryz.f17) [uA a, uA b] []).run = some (sA (between a b), []) := by
  refine (evA_sbetween synced a b).trans ?_
  rw [all_uU]
  simp only [between]
  cases BitVec.ult b a <;> simp only [cond_true, cond_false, Bool.not_true, Bool.not_false]
theorem ok_sbetween : SummOk Kn Tryz.prog 17 (sm [] (gUU fun a b => sA (between a b))) := summ_of (lk_cons ok_ssynced tok_sright) Tryz.checked.mixed Tryz.func17 (by kernel_rfl) (by rfl) 20 (fun args H v H' h => by
  obtain ⟨a, b, rfl, rfl, rfl, rfl⟩ := gUU_inv h; exact ev_sbetween a b)
def L_sbetween : List (Nat × Summ) := (17, (sm [] (gUU fun a b => sA (between a b)))) :: L_sright
theorem tok_sbetween : TOk Kn Tryz.prog (lk L_sbetween) := lk_cons ok_sbetween tok_sright

theorem evA_sin (R : Sc → Sc) (TI : Tn → Tn → Bool) (a b : Sc) : (evalFn Tryz.prog (lk ((38, (sm [] (gTT fun a b => bA (TI a b)))) :: (24, (sm [] (hS fun k => sA (R k)))) :: L_sbetween)) 20 Tryz.f16 (codeOf Tryz.f16) [sA a, sA b] []).run = bif TI (R a).t (R b).t then bif BitVec.ule (R b).u (R a).u then bif BitVec.ule (R a).U (R b).U then bif decide ((R b).s ≤ (R a).s) then some (bA (decide ((R a).S ≤ (R b).S)), []) else some (bA false, []) else some (bA false, []) else some (bA false, []) else some (bA false, []) := by kernel_rfl
theorem ev_sin (a b : Sc) : (evalFn Tryz.prog (lk ((38, (sm [] (gTT fun a b => bA (Tn.inn a b)))) :: (24, (sm [] (hS fun k => sA (Sc.right k)))) :: L_sbetween)) 20 Tryz.f16 (codeOf Tryz.f16) [sA a, sA b] []).run = some (bA (Sc.inn a b), []) := by
  refine (evA_sin Sc.right Tn.inn a b).trans ?_
  simp only [Sc.inn]
  cases Tn.inn (Sc.right a).t (Sc.right b).t <;> cases BitVec.ule (Sc.right b).u (Sc.right a).u <;> cases BitVec.ule (Sc.right a).U (Sc.right b).U <;> cases decide ((Sc.right b).s ≤ (Sc.right a).s) <;> simp only [cond_true, cond_false, Bool.not_true, Bool.not_false]
theorem ok_sin : SummOk Kn Tryz.prog 16 (sm [] (hSS fun a b => bA (Sc.inn a b))) := summ_of (lk_cons ok_inn (lk_cons ok_sright tok_sbetween)) Tryz.checked.mixed Tryz.func16 (by kernel_rfl) (by rfl) 20 (fun args H v H' h => by
  obtain ⟨a, b, rfl, rfl, rfl, rfl⟩ := hSS_inv h; exact ev_sin a b)
def L_sin : List (Nat × Summ) := (16, (sm [] (hSS fun a b => bA (Sc.inn a b)))) :: L_sbetween
theorem tok_sin : TOk Kn Tryz.prog (lk L_sin) := lk_cons ok_sin tok_sbetween

theorem evA_smeet (R : Sc → Sc) (F : Sc → Sc) (B : Sc → Bool) (TM : Tn → Tn → Tn) (TO : Tn → Tn → Bool) (a b : Sc) : (evalFn Tryz.prog (lk ((36, (sm [] (gTT fun a b => tbA (TM a b) (TO a b)))) :: (20, (sm [] (hS fun k => sbA (F k) (B k)))) :: (24, (sm [] (hS fun k => sA (R k)))) :: L_sin)) 20 Tryz.f14 (codeOf Tryz.f14) [sA a, sA b] []).run = bif !TO (R a).t (R b).t then some (sbA Sc.zero false, []) else some (sbA (F (⟨TM (R a).t (R b).t, maxU (R a).u (R b).u, minU (R a).U (R b).U, maxI (R a).s (R b).s, minI (R a).S (R b).S⟩ : Sc)) (B (⟨TM (R a).t (R b).t, maxU (R a).u (R b).u, minU (R a).U (R b).U, maxI (R a).s (R b).s, minI (R a).S (R b).S⟩ : Sc)), []) := by kernel_rfl
theorem ev_smeet (a b : Sc) : (evalFn Tryz.prog (lk ((36, (sm [] (gTT fun a b => tbA (Tn.meet a b) (meetOk a b)))) :: (20, (sm [] (hS fun k => sbA (syncF k) (syncB k)))) :: (24, (sm [] (hS fun k => sA (Sc.right k)))) :: L_sin)) 20 Tryz.f14 (codeOf Tryz.f14) [sA a, sA b] []).run = some (sbA (meetF a b) (meetB a b), []) := by
  refine (evA_smeet Sc.right syncF syncB Tn.meet meetOk a b).trans ?_
  simp only [meetF, meetB, meetS, syncF, syncB]
  cases meetOk (Sc.right a).t (Sc.right b).t <;> simp only [cond_true, cond_false, Bool.not_true, Bool.not_false, Option.getD_none, Option.isSome_none]
theorem ok_smeet : SummOk Kn Tryz.prog 14 (sm [] (hSS fun a b => sbA (meetF a b) (meetB a b))) := summ_of (lk_cons ok_meet (lk_cons ok_sync (lk_cons ok_sright tok_sin))) Tryz.checked.mixed Tryz.func14 (by kernel_rfl) (by rfl) 20 (fun args H v H' h => by
  obtain ⟨a, b, rfl, rfl, rfl, rfl⟩ := hSS_inv h; exact ev_smeet a b)
def L_smeet : List (Nat × Summ) := (14, (sm [] (hSS fun a b => sbA (meetF a b) (meetB a b)))) :: L_sin
theorem tok_smeet : TOk Kn Tryz.prog (lk L_smeet) := lk_cons ok_smeet tok_sin

theorem evA_sjoin (R : Sc → Sc) (Y : Sc → Sc) (TJ : Tn → Tn → Tn) (a b : Sc) : (evalFn Tryz.prog (lk ((37, (sm [] (gTT fun a b => tA (TJ a b)))) :: (27, (sm [] (hS fun k => sA (Y k)))) :: (24, (sm [] (hS fun k => sA (R k)))) :: L_smeet)) 20 Tryz.f15 (codeOf Tryz.f15) [sA a, sA b] []).run = some (sA (Y (⟨TJ (R a).t (R b).t, minU (R a).u (R b).u, maxU (R a).U (R b).U, minI (R a).s (R b).s, maxI (R a).S (R b).S⟩ : Sc)), []) := by kernel_rfl
theorem ev_sjoin (a b : Sc) : (evalFn Tryz.prog (lk ((37, (sm [] (gTT fun a b => tA (Tn.join a b)))) :: (27, (sm [] (hS fun k => sA (synced k)))) :: (24, (sm [] (hS fun k => sA (Sc.right k)))) :: L_smeet)) 20 Tryz.f15 (codeOf Tryz.f15) [sA a, sA b] []).run = some (sA (Sc.join a b), []) := by
  refine (evA_sjoin Sc.right synced Tn.join a b).trans ?_
  simp only [Sc.join, joinP]
theorem ok_sjoin : SummOk Kn Tryz.prog 15 (sm [] (hSS fun a b => sA (Sc.join a b))) := summ_of (lk_cons ok_join (lk_cons ok_ssynced (lk_cons ok_sright tok_smeet))) Tryz.checked.mixed Tryz.func15 (by kernel_rfl) (by rfl) 20 (fun args H v H' h => by
  obtain ⟨a, b, rfl, rfl, rfl, rfl⟩ := hSS_inv h; exact ev_sjoin a b)
def L_sjoin : List (Nat × Summ) := (15, (sm [] (hSS fun a b => sA (Sc.join a b)))) :: L_smeet
theorem tok_sjoin : TOk Kn Tryz.prog (lk L_sjoin) := lk_cons ok_sjoin tok_smeet

theorem evA_slow (Y : Sc → Sc) (TL : Tn → Tn) (a : Sc) : (evalFn Tryz.prog (lk ((66, (sm [] (gT fun a => tA (TL a)))) :: (27, (sm [] (hS fun k => sA (Y k)))) :: L_sjoin)) 20 Tryz.f26 (codeOf Tryz.f26) [sA a] []).run = bif BitVec.ule a.U max32 then some (sA (Y ⟨⟨(TL a.t).v, (TL a.t).m⟩, a.u, a.U, all.s, all.S⟩), []) else some (sA (Y ⟨⟨(TL a.t).v, (TL a.t).m⟩, all.u, all.U, all.s, all.S⟩), []) := by kernel_rfl
theorem ev_slow (a : Sc) : (evalFn Tryz.prog (lk ((66, (sm [] (gT fun a => tA (Tn.low a)))) :: (27, (sm [] (hS fun k => sA (synced k)))) :: L_sjoin)) 20 Tryz.f26 (codeOf Tryz.f26) [sA a] []).run = some (sA (Sc.low a), []) := by
  refine (evA_slow synced Tn.low a).trans ?_
  rw [all_tuU, all_t]
  simp only [Sc.low, base]
  cases BitVec.ule a.U max32 <;> simp only [cond_true, cond_false, Bool.not_true, Bool.not_false]
theorem ok_slow : SummOk Kn Tryz.prog 26 (sm [] (hS fun a => sA (Sc.low a))) := summ_of (lk_cons ok_low (lk_cons ok_ssynced tok_sjoin)) Tryz.checked.mixed Tryz.func26 (by kernel_rfl) (by rfl) 20 (fun args H v H' h => by
  obtain ⟨a, rfl, rfl, rfl, rfl⟩ := hS_inv h; exact ev_slow a)
def L_slow : List (Nat × Summ) := (26, (sm [] (hS fun a => sA (Sc.low a)))) :: L_sjoin
theorem tok_slow : TOk Kn Tryz.prog (lk L_slow) := lk_cons ok_slow tok_sjoin

end
end Go.Proofs.YtlaaljiffcablaaGreatDoor
