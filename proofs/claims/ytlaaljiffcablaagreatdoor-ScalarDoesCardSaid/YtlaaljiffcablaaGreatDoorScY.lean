/-
  The contracts of what turns bytes (written by our own gen_sc9.py).
-/
import Derived.Test.YtlaaljiffcablaaGreatDoorScV
import Derived.Test.YtlaaljiffcablaaGreatDoorScE
namespace Go.Proofs.YtlaaljiffcablaaGreatDoor
open Go Go.Sy Go.Tn Go.Sc
set_option linter.unusedSimpArgs false
set_option linter.unusedVariables false
noncomputable section

theorem evA_brev16 (a : BitVec 16) : (evalFn Tryz.prog (lk (L_lmade)) 20 Tryz.f31 (codeOf Tryz.f31) [.p (.one (.w .u16 a))] []).run = some (.p (.one (.w .u16 (rev16 a))), []) := by kernel_rfl
theorem ev_brev16 (a : BitVec 16) : (evalFn Tryz.prog (lk (L_lmade)) 20 Tryz.f31 (codeOf Tryz.f31) [.p (.one (.w .u16 a))] []).run = some (.p (.one (.w .u16 (rev16 a))), []) := by
  refine (evA_brev16 a).trans ?_
  rfl
theorem ok_brev16 : SummOk Kn Tryz.prog 31 (sm [] (gW16 fun a => .p (.one (.w .u16 (rev16 a))))) := summ_of tok_lmade Tryz.checked.mixed Tryz.func31 (by kernel_rfl) (by rfl) 20 (fun args H v H' h => by
  obtain ⟨a, rfl, rfl, rfl, rfl⟩ := gW16_inv h; exact ev_brev16 a)
def L_brev16 : List (Nat × Summ) := (31, (sm [] (gW16 fun a => .p (.one (.w .u16 (rev16 a)))))) :: L_lmade
theorem tok_brev16 : TOk Kn Tryz.prog (lk L_brev16) := lk_cons ok_brev16 tok_lmade

theorem evA_brev32 (a : BitVec 32) : (evalFn Tryz.prog (lk (L_brev16)) 20 Tryz.f32 (codeOf Tryz.f32) [.p (.one (.w .u32 a))] []).run = some (.p (.one (.w .u32 (rev32 a))), []) := by kernel_rfl
theorem ev_brev32 (a : BitVec 32) : (evalFn Tryz.prog (lk (L_brev16)) 20 Tryz.f32 (codeOf Tryz.f32) [.p (.one (.w .u32 a))] []).run = some (.p (.one (.w .u32 (rev32 a))), []) := by
  refine (evA_brev32 a).trans ?_
  rfl
theorem ok_brev32 : SummOk Kn Tryz.prog 32 (sm [] (gW32 fun a => .p (.one (.w .u32 (rev32 a))))) := summ_of tok_brev16 Tryz.checked.mixed Tryz.func32 (by kernel_rfl) (by rfl) 20 (fun args H v H' h => by
  obtain ⟨a, rfl, rfl, rfl, rfl⟩ := gW32_inv h; exact ev_brev32 a)
def L_brev32 : List (Nat × Summ) := (32, (sm [] (gW32 fun a => .p (.one (.w .u32 (rev32 a)))))) :: L_brev16
theorem tok_brev32 : TOk Kn Tryz.prog (lk L_brev32) := lk_cons ok_brev32 tok_brev16

theorem evA_brev64 (a : BitVec 64) : (evalFn Tryz.prog (lk (L_brev32)) 20 Tryz.f33 (codeOf Tryz.f33) [uA a] []).run = some (uA (rev64 a), []) := by kernel_rfl
theorem ev_brev64 (a : BitVec 64) : (evalFn Tryz.prog (lk (L_brev32)) 20 Tryz.f33 (codeOf Tryz.f33) [uA a] []).run = some (uA (rev64 a), []) := by
  refine (evA_brev64 a).trans ?_
  rfl
theorem ok_brev64 : SummOk Kn Tryz.prog 33 (sm [] (gU fun a => uA (rev64 a))) := summ_of tok_brev32 Tryz.checked.mixed Tryz.func33 (by kernel_rfl) (by rfl) 20 (fun args H v H' h => by
  obtain ⟨a, rfl, rfl, rfl, rfl⟩ := gU_inv h; exact ev_brev64 a)
def L_brev64 : List (Nat × Summ) := (33, (sm [] (gU fun a => uA (rev64 a)))) :: L_brev32
theorem tok_brev64 : TOk Kn Tryz.prog (lk L_brev64) := lk_cons ok_brev64 tok_brev32

theorem evA_aturn (R16 : BitVec 16 → BitVec 16) (R32 : BitVec 32 → BitVec 32) (R64 : BitVec 64 → BitVec 64) (n : Int) (a : BitVec 64) : (evalFn Tryz.prog (lk ((33, (sm [] (gU fun a => uA (R64 a)))) :: (32, (sm [] (gW32 fun a => .p (.one (.w .u32 (R32 a)))))) :: (31, (sm [] (gW16 fun a => .p (.one (.w .u16 (R16 a)))))) :: L_brev64)) 20 Tryz.f12 (codeOf Tryz.f12) [iA n, uA a] []).run = bif decide (n = 16) then some (ubA ((R16 (a.setWidth 16)).setWidth 64) true, []) else bif decide (n = 32) then some (ubA ((R32 (a.setWidth 32)).setWidth 64) true, []) else bif decide (n = 64) then some (ubA (R64 a) true, []) else some (ubA (BitVec.ofInt 64 0) false, []) := by kernel_rfl
theorem ev_aturn (n : Int) (a : BitVec 64) : (evalFn Tryz.prog (lk ((33, (sm [] (gU fun a => uA (rev64 a)))) :: (32, (sm [] (gW32 fun a => .p (.one (.w .u32 (rev32 a)))))) :: (31, (sm [] (gW16 fun a => .p (.one (.w .u16 (rev16 a)))))) :: L_brev64)) 20 Tryz.f12 (codeOf Tryz.f12) [iA n, uA a] []).run = some (ubA (turnV n a) (turnOk n), []) := by
  refine (evA_aturn rev16 rev32 rev64 n a).trans ?_
  unfold turnV turnOk
  cases decide (n = 16)
  case true => rfl
  cases decide (n = 32)
  case true => rfl
  cases decide (n = 64) <;> rfl
theorem ok_aturn : SummOk Kn Tryz.prog 12 (sm [] (hIU fun n a => ubA (turnV n a) (turnOk n))) := summ_of (lk_cons ok_brev64 (lk_cons ok_brev32 (lk_cons ok_brev16 tok_brev64))) Tryz.checked.mixed Tryz.func12 (by kernel_rfl) (by rfl) 20 (fun args H v H' h => by
  obtain ⟨n, a, rfl, rfl, rfl, rfl⟩ := hIU_inv h; exact ev_aturn n a)
def L_aturn : List (Nat × Summ) := (12, (sm [] (hIU fun n a => ubA (turnV n a) (turnOk n)))) :: L_brev64
theorem tok_aturn : TOk Kn Tryz.prog (lk L_aturn) := lk_cons ok_aturn tok_brev64

theorem evA_aswap (TV : Int → BitVec 64 → BitVec 64) (TO : Int → Bool) (n : Int) (b : Bool) (a : BitVec 64) : (evalFn Tryz.prog (lk ((12, (sm [] (hIU fun n a => ubA (TV n a) (TO n)))) :: L_aturn)) 20 Tryz.f11 (codeOf Tryz.f11) [iA n, bA b, uA a] []).run = bif !!TO n then (bif b then some (ubA (TV n a) (TO n), []) else some (ubA (TV n (TV n a)) (TO n), [])) else some (ubA (TV n a) (TO n), []) := by kernel_rfl
theorem ev_aswap (n : Int) (b : Bool) (a : BitVec 64) : (evalFn Tryz.prog (lk ((12, (sm [] (hIU fun n a => ubA (turnV n a) (turnOk n)))) :: L_aturn)) 20 Tryz.f11 (codeOf Tryz.f11) [iA n, bA b, uA a] []).run = some (ubA (swapV n b a) (turnOk n), []) := by
  refine (evA_aswap turnV turnOk n b a).trans ?_
  unfold swapV
  cases turnOk n <;> cases b <;> rfl
theorem ok_aswap : SummOk Kn Tryz.prog 11 (sm [] (hIBU fun n b a => ubA (swapV n b a) (turnOk n))) := summ_of (lk_cons ok_aturn tok_aturn) Tryz.checked.mixed Tryz.func11 (by kernel_rfl) (by rfl) 20 (fun args H v H' h => by
  obtain ⟨n, b, a, rfl, rfl, rfl, rfl⟩ := hIBU_inv h; exact ev_aswap n b a)
def L_aswap : List (Nat × Summ) := (11, (sm [] (hIBU fun n b a => ubA (swapV n b a) (turnOk n)))) :: L_aturn
theorem tok_aswap : TOk Kn Tryz.prog (lk L_aswap) := lk_cons ok_aswap tok_aturn

theorem evA_sswap1 (SV : Int → Bool → BitVec 64 → BitVec 64) (SO : Int → Bool) (a : BitVec 64) (n : Int) (b : Bool) : (evalFn Tryz.prog (lk ((11, (sm [] (hIBU fun n b a => ubA (SV n b a) (SO n)))) :: L_aswap)) 20 Tryz.f34 (codeOf Tryz.f34) [uA a, .p (.one (.p 0 0)), .p (.one (.p 1 0))] [[.v (.int .i64 n)], [.v (.bool b)]]).run = some (ubA (SV n b a) (SO n), [[.v (.int .i64 n)], [.v (.bool b)]]) := by kernel_rfl
theorem ev_sswap1 (a : BitVec 64) (n : Int) (b : Bool) : (evalFn Tryz.prog (lk ((11, (sm [] (hIBU fun n b a => ubA (swapV n b a) (turnOk n)))) :: L_aswap)) 20 Tryz.f34 (codeOf Tryz.f34) [uA a, .p (.one (.p 0 0)), .p (.one (.p 1 0))] [[.v (.int .i64 n)], [.v (.bool b)]]).run = some (ubA (swapV n b a) (turnOk n), [[.v (.int .i64 n)], [.v (.bool b)]]) := by
  refine (evA_sswap1 swapV turnOk a n b).trans ?_
  rfl
theorem ok_sswap1 : SummOk Kn Tryz.prog 34 (sm [1, 1] (hC2 fun a n b => ubA (swapV n b a) (turnOk n))) := summ_of (lk_cons ok_aswap tok_aswap) Tryz.checked.mixed Tryz.func34 (by kernel_rfl) (by rfl) 20 (fun args H v H' h => by
  obtain ⟨a, n, b, rfl, rfl, rfl, rfl⟩ := hC2_inv h; exact ev_sswap1 a n b)
def L_sswap1 : List (Nat × Summ) := (34, (sm [1, 1] (hC2 fun a n b => ubA (swapV n b a) (turnOk n)))) :: L_aswap
theorem tok_sswap1 : TOk Kn Tryz.prog (lk L_sswap1) := lk_cons ok_sswap1 tok_aswap

theorem evA_sswap2 (TV : Int → BitVec 64 → BitVec 64) (TO : Int → Bool) (a : BitVec 64) (n : Int) : (evalFn Tryz.prog (lk ((12, (sm [] (hIU fun n a => ubA (TV n a) (TO n)))) :: L_sswap1)) 20 Tryz.f35 (codeOf Tryz.f35) [uA a, .p (.one (.p 0 0))] [[.v (.int .i64 n)]]).run = some (ubA (TV n a) (TO n), [[.v (.int .i64 n)]]) := by kernel_rfl
theorem ev_sswap2 (a : BitVec 64) (n : Int) : (evalFn Tryz.prog (lk ((12, (sm [] (hIU fun n a => ubA (turnV n a) (turnOk n)))) :: L_sswap1)) 20 Tryz.f35 (codeOf Tryz.f35) [uA a, .p (.one (.p 0 0))] [[.v (.int .i64 n)]]).run = some (ubA (turnV n a) (turnOk n), [[.v (.int .i64 n)]]) := by
  refine (evA_sswap2 turnV turnOk a n).trans ?_
  rfl
theorem ok_sswap2 : SummOk Kn Tryz.prog 35 (sm [1] (hC1 fun a n => ubA (turnV n a) (turnOk n))) := summ_of (lk_cons ok_aturn tok_sswap1) Tryz.checked.mixed Tryz.func35 (by kernel_rfl) (by rfl) 20 (fun args H v H' h => by
  obtain ⟨a, n, rfl, rfl, rfl, rfl⟩ := hC1_inv h; exact ev_sswap2 a n)
def L_sswap2 : List (Nat × Summ) := (35, (sm [1] (hC1 fun a n => ubA (turnV n a) (turnOk n)))) :: L_sswap1
theorem tok_sswap2 : TOk Kn Tryz.prog (lk L_sswap2) := lk_cons ok_sswap2 tok_sswap1

theorem evA_sswap (R : Sc → Sc) (Y : Sc → Sc) (ALL : Sc) (SV : Int → Bool → BitVec 64 → BitVec 64) (SO : Int → Bool) (TV : Int → BitVec 64 → BitVec 64) (TO : Int → Bool) (n : Int) (b t : Bool) (a : Sc) : (evalFn Tryz.prog (lk ((35, (sm [1] (hC1 fun a n => ubA (TV n a) (TO n)))) :: (34, (sm [1, 1] (hC2 fun a n b => ubA (SV n b a) (SO n)))) :: (10, (sm [] (g0 (sA ALL)))) :: (27, (sm [] (hS fun k => sA (Y k)))) :: (24, (sm [] (hS fun k => sA (R k)))) :: L_sswap2)) 20 Tryz.f13 (codeOf Tryz.f13) [iA n, bA b, bA t, sA a] []).run = bif t then (bif !(TO n) then some (sA ALL, []) else some (sA (Y ⟨⟨TV n (R a).t.v, TV n (R a).t.m⟩, ALL.u, ALL.U, ALL.s, ALL.S⟩), [])) else (bif !(SO n) then some (sA ALL, []) else some (sA (Y ⟨⟨SV n b (R a).t.v, SV n b (R a).t.m⟩, ALL.u, ALL.U, ALL.s, ALL.S⟩), [])) := by kernel_rfl
theorem ev_sswap (n : Int) (b t : Bool) (a : Sc) : (evalFn Tryz.prog (lk ((35, (sm [1] (hC1 fun a n => ubA (turnV n a) (turnOk n)))) :: (34, (sm [1, 1] (hC2 fun a n b => ubA (swapV n b a) (turnOk n)))) :: (10, (sm [] (g0 (sA all)))) :: (27, (sm [] (hS fun k => sA (synced k)))) :: (24, (sm [] (hS fun k => sA (Sc.right k)))) :: L_sswap2)) 20 Tryz.f13 (codeOf Tryz.f13) [iA n, bA b, bA t, sA a] []).run = some (sA (sswap n b t a), []) := by
  refine (evA_sswap Sc.right synced all swapV turnOk turnV turnOk n b t a).trans ?_
  unfold sswap
  cases t <;> cases turnOk n <;> rfl
theorem ok_sswap : SummOk Kn Tryz.prog 13 (sm [] (hIBBS fun n b t a => sA (sswap n b t a))) := summ_of (lk_cons ok_sswap2 (lk_cons ok_sswap1 (lk_cons ok_sunknown (lk_cons ok_ssynced (lk_cons ok_sright tok_sswap2))))) Tryz.checked.mixed Tryz.func13 (by kernel_rfl) (by rfl) 20 (fun args H v H' h => by
  obtain ⟨n, b, t, a, rfl, rfl, rfl, rfl⟩ := hIBBS_inv h; exact ev_sswap n b t a)
def L_sswap : List (Nat × Summ) := (13, (sm [] (hIBBS fun n b t a => sA (sswap n b t a)))) :: L_sswap2
theorem tok_sswap : TOk Kn Tryz.prog (lk L_sswap) := lk_cons ok_sswap tok_sswap2

end
end Go.Proofs.YtlaaljiffcablaaGreatDoor
