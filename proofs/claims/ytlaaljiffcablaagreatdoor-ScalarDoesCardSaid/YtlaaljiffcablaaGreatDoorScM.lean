/-
  The contracts of package alu's functions, and of package scalar's, third part, over this seat's program (written by our own gen_sc3.py).
-/
import Derived.Test.YtlaaljiffcablaaGreatDoorScL
import Derived.Test.YtlaaljiffcablaaGreatDoorScR
namespace Go.Proofs.YtlaaljiffcablaaGreatDoor
open Go Go.Sy Go.Tn Go.Sc
set_option linter.unusedSimpArgs false
set_option linter.unusedVariables false
noncomputable section

theorem ev_aadd64 (a b : BitVec 64) : (evalFn Tryz.prog (lk L_slow) 20 Tryz.f53 (codeOf Tryz.f53) [uA a, uA b, iA 64] []).run = some ((fun a b _ => uA (a + b)) a b 64, []) := by
  kernel_rfl
theorem ev_aadd32 (a b : BitVec 64) : (evalFn Tryz.prog (lk L_slow) 20 Tryz.f53 (codeOf Tryz.f53) [uA a, uA b, iA 32] []).run = some ((fun a b _ => uA (a + b)) a b 32, []) := by
  kernel_rfl
theorem ok_aadd : SummOk Kn Tryz.prog 53 (sm [] (hUUI fun a b _ => uA (a + b))) := summ_of tok_slow Tryz.checked.mixed Tryz.func53 (by kernel_rfl) (by rfl) 20 (fun args H v H' h => by
  obtain ⟨a, b, n, hn, rfl, rfl, rfl, rfl⟩ := hUUI_inv h
  rcases hn with rfl | rfl
  · exact ev_aadd64 a b
  · exact ev_aadd32 a b)
def L_aadd : List (Nat × Summ) := (53, (sm [] (hUUI fun a b _ => uA (a + b)))) :: L_slow
theorem tok_aadd : TOk Kn Tryz.prog (lk L_aadd) := lk_cons ok_aadd tok_slow

theorem ev_asub64 (a b : BitVec 64) : (evalFn Tryz.prog (lk L_aadd) 20 Tryz.f54 (codeOf Tryz.f54) [uA a, uA b, iA 64] []).run = some ((fun a b _ => uA (a - b)) a b 64, []) := by
  kernel_rfl
theorem ev_asub32 (a b : BitVec 64) : (evalFn Tryz.prog (lk L_aadd) 20 Tryz.f54 (codeOf Tryz.f54) [uA a, uA b, iA 32] []).run = some ((fun a b _ => uA (a - b)) a b 32, []) := by
  kernel_rfl
theorem ok_asub : SummOk Kn Tryz.prog 54 (sm [] (hUUI fun a b _ => uA (a - b))) := summ_of tok_aadd Tryz.checked.mixed Tryz.func54 (by kernel_rfl) (by rfl) 20 (fun args H v H' h => by
  obtain ⟨a, b, n, hn, rfl, rfl, rfl, rfl⟩ := hUUI_inv h
  rcases hn with rfl | rfl
  · exact ev_asub64 a b
  · exact ev_asub32 a b)
def L_asub : List (Nat × Summ) := (54, (sm [] (hUUI fun a b _ => uA (a - b)))) :: L_aadd
theorem tok_asub : TOk Kn Tryz.prog (lk L_asub) := lk_cons ok_asub tok_aadd

theorem ev_amul64 (a b : BitVec 64) : (evalFn Tryz.prog (lk L_asub) 20 Tryz.f55 (codeOf Tryz.f55) [uA a, uA b, iA 64] []).run = some ((fun a b _ => uA (a * b)) a b 64, []) := by
  kernel_rfl
theorem ev_amul32 (a b : BitVec 64) : (evalFn Tryz.prog (lk L_asub) 20 Tryz.f55 (codeOf Tryz.f55) [uA a, uA b, iA 32] []).run = some ((fun a b _ => uA (a * b)) a b 32, []) := by
  kernel_rfl
theorem ok_amul : SummOk Kn Tryz.prog 55 (sm [] (hUUI fun a b _ => uA (a * b))) := summ_of tok_asub Tryz.checked.mixed Tryz.func55 (by kernel_rfl) (by rfl) 20 (fun args H v H' h => by
  obtain ⟨a, b, n, hn, rfl, rfl, rfl, rfl⟩ := hUUI_inv h
  rcases hn with rfl | rfl
  · exact ev_amul64 a b
  · exact ev_amul32 a b)
def L_amul : List (Nat × Summ) := (55, (sm [] (hUUI fun a b _ => uA (a * b)))) :: L_asub
theorem tok_amul : TOk Kn Tryz.prog (lk L_amul) := lk_cons ok_amul tok_asub

theorem ev_adiv64 (a b : BitVec 64) : (evalFn Tryz.prog (lk L_amul) 20 Tryz.f56 (codeOf Tryz.f56) [uA a, uA b, iA 64] []).run = some ((fun a b _ => uA (bif b == zW then zW else a / b)) a b 64, []) := by
  have e : (evalFn Tryz.prog (lk L_amul) 20 Tryz.f56 (codeOf Tryz.f56) [uA a, uA b, iA 64] []).run = bif b == zW then some (uA zW, []) else bif b == 0#64 then none else some (uA (a / b), []) := by kernel_rfl
  rw [e]
  show (bif b == zW then some (uA zW, []) else bif b == zW then none else some (uA (a / b), [])) = some (uA (bif b == zW then zW else a / b), [])
  cases (b == zW) <;> rfl
theorem ev_adiv32 (a b : BitVec 64) : (evalFn Tryz.prog (lk L_amul) 20 Tryz.f56 (codeOf Tryz.f56) [uA a, uA b, iA 32] []).run = some ((fun a b _ => uA (bif b == zW then zW else a / b)) a b 32, []) := by
  have e : (evalFn Tryz.prog (lk L_amul) 20 Tryz.f56 (codeOf Tryz.f56) [uA a, uA b, iA 32] []).run = bif b == zW then some (uA zW, []) else bif b == 0#64 then none else some (uA (a / b), []) := by kernel_rfl
  rw [e]
  show (bif b == zW then some (uA zW, []) else bif b == zW then none else some (uA (a / b), [])) = some (uA (bif b == zW then zW else a / b), [])
  cases (b == zW) <;> rfl
theorem ok_adiv : SummOk Kn Tryz.prog 56 (sm [] (hUUI fun a b _ => uA (bif b == zW then zW else a / b))) := summ_of tok_amul Tryz.checked.mixed Tryz.func56 (by kernel_rfl) (by rfl) 20 (fun args H v H' h => by
  obtain ⟨a, b, n, hn, rfl, rfl, rfl, rfl⟩ := hUUI_inv h
  rcases hn with rfl | rfl
  · exact ev_adiv64 a b
  · exact ev_adiv32 a b)
def L_adiv : List (Nat × Summ) := (56, (sm [] (hUUI fun a b _ => uA (bif b == zW then zW else a / b)))) :: L_amul
theorem tok_adiv : TOk Kn Tryz.prog (lk L_adiv) := lk_cons ok_adiv tok_amul

theorem ev_aor64 (a b : BitVec 64) : (evalFn Tryz.prog (lk L_adiv) 20 Tryz.f57 (codeOf Tryz.f57) [uA a, uA b, iA 64] []).run = some ((fun a b _ => uA (a ||| b)) a b 64, []) := by
  kernel_rfl
theorem ev_aor32 (a b : BitVec 64) : (evalFn Tryz.prog (lk L_adiv) 20 Tryz.f57 (codeOf Tryz.f57) [uA a, uA b, iA 32] []).run = some ((fun a b _ => uA (a ||| b)) a b 32, []) := by
  kernel_rfl
theorem ok_aor : SummOk Kn Tryz.prog 57 (sm [] (hUUI fun a b _ => uA (a ||| b))) := summ_of tok_adiv Tryz.checked.mixed Tryz.func57 (by kernel_rfl) (by rfl) 20 (fun args H v H' h => by
  obtain ⟨a, b, n, hn, rfl, rfl, rfl, rfl⟩ := hUUI_inv h
  rcases hn with rfl | rfl
  · exact ev_aor64 a b
  · exact ev_aor32 a b)
def L_aor : List (Nat × Summ) := (57, (sm [] (hUUI fun a b _ => uA (a ||| b)))) :: L_adiv
theorem tok_aor : TOk Kn Tryz.prog (lk L_aor) := lk_cons ok_aor tok_adiv

theorem ev_aand64 (a b : BitVec 64) : (evalFn Tryz.prog (lk L_aor) 20 Tryz.f58 (codeOf Tryz.f58) [uA a, uA b, iA 64] []).run = some ((fun a b _ => uA (a &&& b)) a b 64, []) := by
  kernel_rfl
theorem ev_aand32 (a b : BitVec 64) : (evalFn Tryz.prog (lk L_aor) 20 Tryz.f58 (codeOf Tryz.f58) [uA a, uA b, iA 32] []).run = some ((fun a b _ => uA (a &&& b)) a b 32, []) := by
  kernel_rfl
theorem ok_aand : SummOk Kn Tryz.prog 58 (sm [] (hUUI fun a b _ => uA (a &&& b))) := summ_of tok_aor Tryz.checked.mixed Tryz.func58 (by kernel_rfl) (by rfl) 20 (fun args H v H' h => by
  obtain ⟨a, b, n, hn, rfl, rfl, rfl, rfl⟩ := hUUI_inv h
  rcases hn with rfl | rfl
  · exact ev_aand64 a b
  · exact ev_aand32 a b)
def L_aand : List (Nat × Summ) := (58, (sm [] (hUUI fun a b _ => uA (a &&& b)))) :: L_aor
theorem tok_aand : TOk Kn Tryz.prog (lk L_aand) := lk_cons ok_aand tok_aor

theorem ev_alshU64 (a b : BitVec 64) : (evalFn Tryz.prog (lk L_aand) 20 Tryz.f59 (codeOf Tryz.f59) [uA a, uA b, iA 64] []).run = some ((fun (a b : BitVec 64) (n : Int) => uA (a <<< (b % BitVec.ofInt 64 n).toNat)) a b 64, []) := by
  kernel_rfl
theorem ev_alshU32 (a b : BitVec 64) : (evalFn Tryz.prog (lk L_aand) 20 Tryz.f59 (codeOf Tryz.f59) [uA a, uA b, iA 32] []).run = some ((fun (a b : BitVec 64) (n : Int) => uA (a <<< (b % BitVec.ofInt 64 n).toNat)) a b 32, []) := by
  kernel_rfl
theorem ok_alshU : SummOk Kn Tryz.prog 59 (sm [] (hUUI fun (a b : BitVec 64) (n : Int) => uA (a <<< (b % BitVec.ofInt 64 n).toNat))) := summ_of tok_aand Tryz.checked.mixed Tryz.func59 (by kernel_rfl) (by rfl) 20 (fun args H v H' h => by
  obtain ⟨a, b, n, hn, rfl, rfl, rfl, rfl⟩ := hUUI_inv h
  rcases hn with rfl | rfl
  · exact ev_alshU64 a b
  · exact ev_alshU32 a b)
def L_alshU : List (Nat × Summ) := (59, (sm [] (hUUI fun (a b : BitVec 64) (n : Int) => uA (a <<< (b % BitVec.ofInt 64 n).toNat)))) :: L_aand
theorem tok_alshU : TOk Kn Tryz.prog (lk L_alshU) := lk_cons ok_alshU tok_aand

theorem ev_arshU64 (a b : BitVec 64) : (evalFn Tryz.prog (lk L_alshU) 20 Tryz.f60 (codeOf Tryz.f60) [uA a, uA b, iA 64] []).run = some ((fun (a b : BitVec 64) (n : Int) => uA (a >>> (b % BitVec.ofInt 64 n).toNat)) a b 64, []) := by
  kernel_rfl
theorem ev_arshU32 (a b : BitVec 64) : (evalFn Tryz.prog (lk L_alshU) 20 Tryz.f60 (codeOf Tryz.f60) [uA a, uA b, iA 32] []).run = some ((fun (a b : BitVec 64) (n : Int) => uA (a >>> (b % BitVec.ofInt 64 n).toNat)) a b 32, []) := by
  kernel_rfl
theorem ok_arshU : SummOk Kn Tryz.prog 60 (sm [] (hUUI fun (a b : BitVec 64) (n : Int) => uA (a >>> (b % BitVec.ofInt 64 n).toNat))) := summ_of tok_alshU Tryz.checked.mixed Tryz.func60 (by kernel_rfl) (by rfl) 20 (fun args H v H' h => by
  obtain ⟨a, b, n, hn, rfl, rfl, rfl, rfl⟩ := hUUI_inv h
  rcases hn with rfl | rfl
  · exact ev_arshU64 a b
  · exact ev_arshU32 a b)
def L_arshU : List (Nat × Summ) := (60, (sm [] (hUUI fun (a b : BitVec 64) (n : Int) => uA (a >>> (b % BitVec.ofInt 64 n).toNat)))) :: L_alshU
theorem tok_arshU : TOk Kn Tryz.prog (lk L_arshU) := lk_cons ok_arshU tok_alshU

theorem ev_aneg64 (a b : BitVec 64) : (evalFn Tryz.prog (lk L_arshU) 20 Tryz.f61 (codeOf Tryz.f61) [uA a, uA b, iA 64] []).run = some ((fun a _ _ => uA (-a)) a b 64, []) := by
  kernel_rfl
theorem ev_aneg32 (a b : BitVec 64) : (evalFn Tryz.prog (lk L_arshU) 20 Tryz.f61 (codeOf Tryz.f61) [uA a, uA b, iA 32] []).run = some ((fun a _ _ => uA (-a)) a b 32, []) := by
  kernel_rfl
theorem ok_aneg : SummOk Kn Tryz.prog 61 (sm [] (hUUI fun a _ _ => uA (-a))) := summ_of tok_arshU Tryz.checked.mixed Tryz.func61 (by kernel_rfl) (by rfl) 20 (fun args H v H' h => by
  obtain ⟨a, b, n, hn, rfl, rfl, rfl, rfl⟩ := hUUI_inv h
  rcases hn with rfl | rfl
  · exact ev_aneg64 a b
  · exact ev_aneg32 a b)
def L_aneg : List (Nat × Summ) := (61, (sm [] (hUUI fun a _ _ => uA (-a)))) :: L_arshU
theorem tok_aneg : TOk Kn Tryz.prog (lk L_aneg) := lk_cons ok_aneg tok_arshU

theorem ev_amod64 (a b : BitVec 64) : (evalFn Tryz.prog (lk L_aneg) 20 Tryz.f62 (codeOf Tryz.f62) [uA a, uA b, iA 64] []).run = some ((fun a b _ => uA (bif b == zW then a else a % b)) a b 64, []) := by
  have e : (evalFn Tryz.prog (lk L_aneg) 20 Tryz.f62 (codeOf Tryz.f62) [uA a, uA b, iA 64] []).run = bif b == zW then some (uA a, []) else bif b == 0#64 then none else some (uA (a % b), []) := by kernel_rfl
  rw [e]
  show (bif b == zW then some (uA a, []) else bif b == zW then none else some (uA (a % b), [])) = some (uA (bif b == zW then a else a % b), [])
  cases (b == zW) <;> rfl
theorem ev_amod32 (a b : BitVec 64) : (evalFn Tryz.prog (lk L_aneg) 20 Tryz.f62 (codeOf Tryz.f62) [uA a, uA b, iA 32] []).run = some ((fun a b _ => uA (bif b == zW then a else a % b)) a b 32, []) := by
  have e : (evalFn Tryz.prog (lk L_aneg) 20 Tryz.f62 (codeOf Tryz.f62) [uA a, uA b, iA 32] []).run = bif b == zW then some (uA a, []) else bif b == 0#64 then none else some (uA (a % b), []) := by kernel_rfl
  rw [e]
  show (bif b == zW then some (uA a, []) else bif b == zW then none else some (uA (a % b), [])) = some (uA (bif b == zW then a else a % b), [])
  cases (b == zW) <;> rfl
theorem ok_amod : SummOk Kn Tryz.prog 62 (sm [] (hUUI fun a b _ => uA (bif b == zW then a else a % b))) := summ_of tok_aneg Tryz.checked.mixed Tryz.func62 (by kernel_rfl) (by rfl) 20 (fun args H v H' h => by
  obtain ⟨a, b, n, hn, rfl, rfl, rfl, rfl⟩ := hUUI_inv h
  rcases hn with rfl | rfl
  · exact ev_amod64 a b
  · exact ev_amod32 a b)
def L_amod : List (Nat × Summ) := (62, (sm [] (hUUI fun a b _ => uA (bif b == zW then a else a % b)))) :: L_aneg
theorem tok_amod : TOk Kn Tryz.prog (lk L_amod) := lk_cons ok_amod tok_aneg

theorem ev_axor64 (a b : BitVec 64) : (evalFn Tryz.prog (lk L_amod) 20 Tryz.f63 (codeOf Tryz.f63) [uA a, uA b, iA 64] []).run = some ((fun a b _ => uA (a ^^^ b)) a b 64, []) := by
  kernel_rfl
theorem ev_axor32 (a b : BitVec 64) : (evalFn Tryz.prog (lk L_amod) 20 Tryz.f63 (codeOf Tryz.f63) [uA a, uA b, iA 32] []).run = some ((fun a b _ => uA (a ^^^ b)) a b 32, []) := by
  kernel_rfl
theorem ok_axor : SummOk Kn Tryz.prog 63 (sm [] (hUUI fun a b _ => uA (a ^^^ b))) := summ_of tok_amod Tryz.checked.mixed Tryz.func63 (by kernel_rfl) (by rfl) 20 (fun args H v H' h => by
  obtain ⟨a, b, n, hn, rfl, rfl, rfl, rfl⟩ := hUUI_inv h
  rcases hn with rfl | rfl
  · exact ev_axor64 a b
  · exact ev_axor32 a b)
def L_axor : List (Nat × Summ) := (63, (sm [] (hUUI fun a b _ => uA (a ^^^ b)))) :: L_amod
theorem tok_axor : TOk Kn Tryz.prog (lk L_axor) := lk_cons ok_axor tok_amod

theorem ev_amov64 (a b : BitVec 64) : (evalFn Tryz.prog (lk L_axor) 20 Tryz.f64 (codeOf Tryz.f64) [uA a, uA b, iA 64] []).run = some ((fun _ b _ => uA b) a b 64, []) := by
  kernel_rfl
theorem ev_amov32 (a b : BitVec 64) : (evalFn Tryz.prog (lk L_axor) 20 Tryz.f64 (codeOf Tryz.f64) [uA a, uA b, iA 32] []).run = some ((fun _ b _ => uA b) a b 32, []) := by
  kernel_rfl
theorem ok_amov : SummOk Kn Tryz.prog 64 (sm [] (hUUI fun _ b _ => uA b)) := summ_of tok_axor Tryz.checked.mixed Tryz.func64 (by kernel_rfl) (by rfl) 20 (fun args H v H' h => by
  obtain ⟨a, b, n, hn, rfl, rfl, rfl, rfl⟩ := hUUI_inv h
  rcases hn with rfl | rfl
  · exact ev_amov64 a b
  · exact ev_amov32 a b)
def L_amov : List (Nat × Summ) := (64, (sm [] (hUUI fun _ b _ => uA b))) :: L_axor
theorem tok_amov : TOk Kn Tryz.prog (lk L_amov) := lk_cons ok_amov tok_axor

theorem ev_asar64 (a b : BitVec 64) : (evalFn Tryz.prog (lk L_amov) 20 Tryz.f65 (codeOf Tryz.f65) [uA a, uA b, iA 64] []).run = some ((fun (a b : BitVec 64) (n : Int) => uA (bif decide (n = 32) then sar32 a (b % BitVec.ofInt 64 32).toNat else sar64 a (b % BitVec.ofInt 64 64).toNat)) a b 64, []) := by
  kernel_rfl
theorem ev_asar32 (a b : BitVec 64) : (evalFn Tryz.prog (lk L_amov) 20 Tryz.f65 (codeOf Tryz.f65) [uA a, uA b, iA 32] []).run = some ((fun (a b : BitVec 64) (n : Int) => uA (bif decide (n = 32) then sar32 a (b % BitVec.ofInt 64 32).toNat else sar64 a (b % BitVec.ofInt 64 64).toNat)) a b 32, []) := by
  kernel_rfl
theorem ok_asar : SummOk Kn Tryz.prog 65 (sm [] (hUUI fun (a b : BitVec 64) (n : Int) => uA (bif decide (n = 32) then sar32 a (b % BitVec.ofInt 64 32).toNat else sar64 a (b % BitVec.ofInt 64 64).toNat))) := summ_of tok_amov Tryz.checked.mixed Tryz.func65 (by kernel_rfl) (by rfl) 20 (fun args H v H' h => by
  obtain ⟨a, b, n, hn, rfl, rfl, rfl, rfl⟩ := hUUI_inv h
  rcases hn with rfl | rfl
  · exact ev_asar64 a b
  · exact ev_asar32 a b)
def L_asar : List (Nat × Summ) := (65, (sm [] (hUUI fun (a b : BitVec 64) (n : Int) => uA (bif decide (n = 32) then sar32 a (b % BitVec.ofInt 64 32).toNat else sar64 a (b % BitVec.ofInt 64 64).toNat)))) :: L_amov
theorem tok_asar : TOk Kn Tryz.prog (lk L_asar) := lk_cons ok_asar tok_amov

theorem and_lo (x : BitVec 64) : x &&& BitVec.ofInt 64 4294967295 = lo x := by
  apply BitVec.eq_of_toNat_eq
  rw [lo_nat, BitVec.toNat_and]
  have : (BitVec.ofInt 64 4294967295).toNat = 2 ^ 32 - 1 := by decide
  rw [this, Nat.and_two_pow_sub_one_eq_mod]
theorem ev_alow (a : BitVec 64) : (evalFn Tryz.prog (lk L_asar) 20 Tryz.f23 (codeOf Tryz.f23) [uA a] []).run = some (uA (lo a), []) := by
  have e : (evalFn Tryz.prog (lk L_asar) 20 Tryz.f23 (codeOf Tryz.f23) [uA a] []).run = some (uA (a &&& BitVec.ofInt 64 4294967295), []) := by kernel_rfl
  rw [e, and_lo]
theorem ok_alow : SummOk Kn Tryz.prog 23 (sm [] (gU fun a => uA (lo a))) := summ_of tok_asar Tryz.checked.mixed Tryz.func23 (by kernel_rfl) (by rfl) 20 (fun args H v H' h => by
  obtain ⟨a, rfl, rfl, rfl, rfl⟩ := gU_inv h; exact ev_alow a)
def L_alow : List (Nat × Summ) := (23, (sm [] (gU fun a => uA (lo a)))) :: L_asar
theorem tok_alow : TOk Kn Tryz.prog (lk L_alow) := lk_cons ok_alow tok_asar

@[reducible] def aluTab : AV := .p (.many [.clo 53 [], .clo 54 [], .clo 55 [], .clo 56 [], .clo 57 [], .clo 58 [], .clo 59 [], .clo 60 [], .clo 61 [], .clo 62 [], .clo 63 [], .clo 64 [], .clo 65 []])
theorem ev_tabled  : (evalFn Tryz.prog (lk L_alow) 20 Tryz.f22 (codeOf Tryz.f22) [] []).run = some (aluTab, []) := by
  kernel_rfl
theorem ok_tabled : SummOk Kn Tryz.prog 22 (sm [] (g0 aluTab)) := summ_of tok_alow Tryz.checked.mixed Tryz.func22 (by kernel_rfl) (by rfl) 20 (fun args H v H' h => by
  obtain ⟨rfl, rfl, rfl, rfl⟩ := g0_inv h; exact ev_tabled )
def L_tabled : List (Nat × Summ) := (22, (sm [] (g0 aluTab))) :: L_alow
theorem tok_tabled : TOk Kn Tryz.prog (lk L_tabled) := lk_cons ok_tabled tok_alow

theorem evA_aluDo (op : Int) (w : Bool) (a b : BitVec 64) : (evalFn Tryz.prog (lk (L_tabled)) 20 Tryz.f8 (codeOf Tryz.f8) [iA op, bA w, uA a, uA b] []).run = bif !decide (op < 0) then bif decide (12 < op) then some (ubA zW false, []) else bif decide (op = 0) then (bif w then some (ubA (a + b) true, []) else some (ubA (lo ((lo a) + (lo b))) true, [])) else bif decide (op = 1) then (bif w then some (ubA (a - b) true, []) else some (ubA (lo ((lo a) - (lo b))) true, [])) else bif decide (op = 2) then (bif w then some (ubA (a * b) true, []) else some (ubA (lo ((lo a) * (lo b))) true, [])) else bif decide (op = 3) then (bif w then some (ubA ((bif b == zW then zW else a / b)) true, []) else some (ubA (lo ((bif (lo b) == zW then zW else (lo a) / (lo b)))) true, [])) else bif decide (op = 4) then (bif w then some (ubA (a ||| b) true, []) else some (ubA (lo ((lo a) ||| (lo b))) true, [])) else bif decide (op = 5) then (bif w then some (ubA (a &&& b) true, []) else some (ubA (lo ((lo a) &&& (lo b))) true, [])) else bif decide (op = 6) then (bif w then some (ubA (a <<< (b % BitVec.ofInt 64 64).toNat) true, []) else some (ubA (lo ((lo a) <<< ((lo b) % BitVec.ofInt 64 32).toNat)) true, [])) else bif decide (op = 7) then (bif w then some (ubA (a >>> (b % BitVec.ofInt 64 64).toNat) true, []) else some (ubA (lo ((lo a) >>> ((lo b) % BitVec.ofInt 64 32).toNat)) true, [])) else bif decide (op = 8) then (bif w then some (ubA (-a) true, []) else some (ubA (lo (-(lo a))) true, [])) else bif decide (op = 9) then (bif w then some (ubA ((bif b == zW then a else a % b)) true, []) else some (ubA (lo ((bif (lo b) == zW then (lo a) else (lo a) % (lo b)))) true, [])) else bif decide (op = 10) then (bif w then some (ubA (a ^^^ b) true, []) else some (ubA (lo ((lo a) ^^^ (lo b))) true, [])) else bif decide (op = 11) then (bif w then some (ubA (b) true, []) else some (ubA (lo ((lo b))) true, [])) else bif decide (op = 12) then (bif w then some (ubA ((bif decide ((64 : Int) = 32) then sar32 a (b % BitVec.ofInt 64 32).toNat else sar64 a (b % BitVec.ofInt 64 64).toNat)) true, []) else some (ubA (lo ((bif decide ((32 : Int) = 32) then sar32 (lo a) ((lo b) % BitVec.ofInt 64 32).toNat else sar64 (lo a) ((lo b) % BitVec.ofInt 64 64).toNat))) true, [])) else none else some (ubA zW false, []) := by kernel_rfl
theorem ev_aluDo (op : Int) (w : Bool) (a b : BitVec 64) : (evalFn Tryz.prog (lk (L_tabled)) 20 Tryz.f8 (codeOf Tryz.f8) [iA op, bA w, uA a, uA b] []).run = some (ubA (alu op w a b) (opOk op), []) := by
  refine (evA_aluDo op w a b).trans ?_
  unfold alu opOk
  by_cases h0 : op < 0
  · rw [decide_eq_true h0]; rfl
  · by_cases h1 : 12 < op
    · rw [decide_eq_true h1, decide_eq_false h0]; rfl
    · have hc : op = 0 ∨ op = 1 ∨ op = 2 ∨ op = 3 ∨ op = 4 ∨ op = 5 ∨ op = 6 ∨ op = 7 ∨ op = 8 ∨ op = 9 ∨ op = 10 ∨ op = 11 ∨ op = 12 := by omega
      rcases hc with rfl | rfl | rfl | rfl | rfl | rfl | rfl | rfl | rfl | rfl | rfl | rfl | rfl <;> cases w <;> rfl
theorem ok_aluDo : SummOk Kn Tryz.prog 8 (sm [] (hIBUU fun op w a b => ubA (alu op w a b) (opOk op))) := summ_of tok_tabled Tryz.checked.mixed Tryz.func8 (by kernel_rfl) (by rfl) 20 (fun args H v H' h => by
  obtain ⟨op, w, a, b, rfl, rfl, rfl, rfl⟩ := hIBUU_inv h; exact ev_aluDo op w a b)
def L_aluDo : List (Nat × Summ) := (8, (sm [] (hIBUU fun op w a b => ubA (alu op w a b) (opOk op)))) :: L_tabled
theorem tok_aluDo : TOk Kn Tryz.prog (lk L_aluDo) := lk_cons ok_aluDo tok_tabled

def hCap (F : Int → BitVec 64 → BitVec 64 → Int → Int → AV) : GG
  | [.p (.one (.p 0 0)), .p (.one (.p 1 0)), .p (.one (.p 2 0)), .p (.one (.p 3 0)), .p (.one (.p 4 0))], [[.v (.int .i64 op)], [.w .u64 a], [.w .u64 b], [.v (.int .i64 s)], [.v (.int .i64 t)]] =>
    some (F op a b s t, [[.v (.int .i64 op)], [.w .u64 a], [.w .u64 b], [.v (.int .i64 s)], [.v (.int .i64 t)]])
  | _, _ => none
theorem hCap_inv {F : Int → BitVec 64 → BitVec 64 → Int → Int → AV} {args : List AV} {H H' : Hp} {v : AV} (h : hCap F args H = some (v, H')) : ∃ op a b s t, args = [.p (.one (.p 0 0)), .p (.one (.p 1 0)), .p (.one (.p 2 0)), .p (.one (.p 3 0)), .p (.one (.p 4 0))] ∧ H = [[.v (.int .i64 op)], [.w .u64 a], [.w .u64 b], [.v (.int .i64 s)], [.v (.int .i64 t)]] ∧ v = F op a b s t ∧ H' = H := by
  unfold hCap at h; split at h
  · cases h; exact ⟨_, _, _, _, _, rfl, rfl, rfl, rfl⟩
  · cases h
theorem evA_aluCmp1 (op : Int) (a b : BitVec 64) (s t : Int) : (evalFn Tryz.prog (lk (L_aluDo)) 20 Tryz.f101 (codeOf Tryz.f101) [.p (.one (.p 0 0)), .p (.one (.p 1 0)), .p (.one (.p 2 0)), .p (.one (.p 3 0)), .p (.one (.p 4 0))] [[.v (.int .i64 op)], [.w .u64 a], [.w .u64 b], [.v (.int .i64 s)], [.v (.int .i64 t)]]).run = bif decide (op = 1) then some (bA (a == b), [[.v (.int .i64 op)], [.w .u64 a], [.w .u64 b], [.v (.int .i64 s)], [.v (.int .i64 t)]]) else bif decide (op = 5) then some (bA (a != b), [[.v (.int .i64 op)], [.w .u64 a], [.w .u64 b], [.v (.int .i64 s)], [.v (.int .i64 t)]]) else bif decide (op = 2) then some (bA (BitVec.ult b a), [[.v (.int .i64 op)], [.w .u64 a], [.w .u64 b], [.v (.int .i64 s)], [.v (.int .i64 t)]]) else bif decide (op = 3) then some (bA (BitVec.ule b a), [[.v (.int .i64 op)], [.w .u64 a], [.w .u64 b], [.v (.int .i64 s)], [.v (.int .i64 t)]]) else bif decide (op = 10) then some (bA (BitVec.ult a b), [[.v (.int .i64 op)], [.w .u64 a], [.w .u64 b], [.v (.int .i64 s)], [.v (.int .i64 t)]]) else bif decide (op = 11) then some (bA (BitVec.ule a b), [[.v (.int .i64 op)], [.w .u64 a], [.w .u64 b], [.v (.int .i64 s)], [.v (.int .i64 t)]]) else bif decide (op = 4) then some (bA ((a &&& b) != BitVec.ofInt 64 0), [[.v (.int .i64 op)], [.w .u64 a], [.w .u64 b], [.v (.int .i64 s)], [.v (.int .i64 t)]]) else bif decide (op = 6) then some (bA (decide (t < s)), [[.v (.int .i64 op)], [.w .u64 a], [.w .u64 b], [.v (.int .i64 s)], [.v (.int .i64 t)]]) else bif decide (op = 7) then some (bA (decide (t ≤ s)), [[.v (.int .i64 op)], [.w .u64 a], [.w .u64 b], [.v (.int .i64 s)], [.v (.int .i64 t)]]) else bif decide (op = 12) then some (bA (decide (s < t)), [[.v (.int .i64 op)], [.w .u64 a], [.w .u64 b], [.v (.int .i64 s)], [.v (.int .i64 t)]]) else some (bA (decide (s ≤ t)), [[.v (.int .i64 op)], [.w .u64 a], [.w .u64 b], [.v (.int .i64 s)], [.v (.int .i64 t)]]) := by kernel_rfl
theorem ev_aluCmp1 (op : Int) (a b : BitVec 64) (s t : Int) : (evalFn Tryz.prog (lk (L_aluDo)) 20 Tryz.f101 (codeOf Tryz.f101) [.p (.one (.p 0 0)), .p (.one (.p 1 0)), .p (.one (.p 2 0)), .p (.one (.p 3 0)), .p (.one (.p 4 0))] [[.v (.int .i64 op)], [.w .u64 a], [.w .u64 b], [.v (.int .i64 s)], [.v (.int .i64 t)]]).run = some (bA (cmpU op a b s t), [[.v (.int .i64 op)], [.w .u64 a], [.w .u64 b], [.v (.int .i64 s)], [.v (.int .i64 t)]]) := by
  refine (evA_aluCmp1 op a b s t).trans ?_
  unfold cmpU
  cases decide (op = 1)
  case true => rfl
  simp only [cond_false]
  cases decide (op = 5)
  case true => rfl
  simp only [cond_false]
  cases decide (op = 2)
  case true => rfl
  simp only [cond_false]
  cases decide (op = 3)
  case true => rfl
  simp only [cond_false]
  cases decide (op = 10)
  case true => rfl
  simp only [cond_false]
  cases decide (op = 11)
  case true => rfl
  simp only [cond_false]
  cases decide (op = 4)
  case true => rfl
  simp only [cond_false]
  cases decide (op = 6)
  case true => rfl
  simp only [cond_false]
  cases decide (op = 7)
  case true => rfl
  simp only [cond_false]
  cases decide (op = 12)
  case true => rfl
  simp only [cond_false]
theorem ok_aluCmp1 : SummOk Kn Tryz.prog 101 (sm [1, 1, 1, 1, 1] (hCap fun op a b s t => bA (cmpU op a b s t))) := summ_of tok_aluDo Tryz.checked.mixed Tryz.func101 (by kernel_rfl) (by rfl) 20 (fun args H v H' h => by
  obtain ⟨op, a, b, s, t, rfl, rfl, rfl, rfl⟩ := hCap_inv h; exact ev_aluCmp1 op a b s t)
def L_aluCmp1 : List (Nat × Summ) := (101, (sm [1, 1, 1, 1, 1] (hCap fun op a b s t => bA (cmpU op a b s t)))) :: L_aluDo
theorem tok_aluCmp1 : TOk Kn Tryz.prog (lk L_aluCmp1) := lk_cons ok_aluCmp1 tok_aluDo

namespace aluCmp
def path0 : List Nat := [0, 1]
def K0 : List Nat := [1, 4, 6, 7, 8, 9]
def M0 : List Nat := [1, 4, 6, 7, 8, 9, 10, 11]
def orc0 : St → Option (Ex × St)
  | ⟨[(1, .p (.one (.v (.bool w)))), (4, .p (.one (.p 0 0))), (6, .p (.one (.p 1 0))), (7, .p (.one (.p 2 0))), (8, .p (.one (.v (.bool false)))), (9, .p (.one (.v (.bool false))))], [[.v (.int .i64 (op))], [.w .u64 a], [.w .u64 b]]⟩ => some (.normal, ⟨[(1, .p (.one (.v (.bool w)))), (4, .p (.one (.p 0 0))), (6, .p (.one (.p 1 0))), (7, .p (.one (.p 2 0))), (8, .p (.one (.v (.bool false)))), (9, .p (.one (.v (.bool false)))), (10, .p (.one (.p 3 0))), (11, .p (.one (.p 4 0)))], [[.v (.int .i64 (op))], [.w .u64 a], [.w .u64 b], [.v (.int .i64 (a.toInt))], [.v (.int .i64 (b.toInt))]]⟩)
  | _ => none
theorem reg0 (op : Int) (w : Bool) (a b : BitVec 64) : (drawL Tryz.prog (lk (L_aluCmp1)) Tryz.f79.ntmps (opsAt (codeOf Tryz.f79) path0) (opsAt (codeOf Tryz.f79) path0).size (Array.replicate (opsAt (codeOf Tryz.f79) path0).size false) [] ⟨[(1, .p (.one (.v (.bool w)))), (4, .p (.one (.p 0 0))), (6, .p (.one (.p 1 0))), (7, .p (.one (.p 2 0))), (8, .p (.one (.v (.bool false)))), (9, .p (.one (.v (.bool false))))], [[.v (.int .i64 (op))], [.w .u64 a], [.w .u64 b]]⟩).run.bind (permAll 3 M0 [[], [0, 1, 2, 4, 3]]) = some (List.replicate 2 ⟨[(1, .p (.one (.v (.bool w)))), (4, .p (.one (.p 0 0))), (6, .p (.one (.p 1 0))), (7, .p (.one (.p 2 0))), (8, .p (.one (.v (.bool false)))), (9, .p (.one (.v (.bool false)))), (10, .p (.one (.p 3 0))), (11, .p (.one (.p 4 0)))], [[.v (.int .i64 (op))], [.w .u64 a], [.w .u64 b], [.v (.int .i64 (a.toInt))], [.v (.int .i64 (b.toInt))]]⟩) := by kernel_rfl
def LL : LT := (oneL path0 K0 M0 orc0 noL)
theorem lok : LOk Tryz.prog (lk (L_aluCmp1)) Tryz.f79.ntmps 20 LL (codeOf Tryz.f79) := (lok_regP (noL_ok2 _ _ _ _ _ _) (by kernel_rfl) 2 [[], [0, 1, 2, 4, 3]] fun st ex st' h => by
    unfold orc0 at h
    split at h
    · injection h with h
      injection h with h1 h2
      subst h1; subst h2
      exact ⟨rfl, 3, rfl, reg0 _ _ _ _⟩
    · cases h)
end aluCmp
theorem i32_eq (x : BitVec 64) : IntKind.i64.wrap (IntKind.i32.wrap (x.toNat : Int)) = i32 x := by
  unfold i32
  rw [BitVec.toInt_eq_toNat_cond, BitVec.toNat_setWidth, IntKind.wrap_i64, IntKind.wrap_i32]
  have := x.isLt
  split <;> omega
theorem ev_aluCmp (op : Int) (w : Bool) (a b : BitVec 64) : (evalFnL Tryz.prog (lk L_aluCmp1) 20 aluCmp.LL Tryz.f79 (codeOf Tryz.f79) [iA op, bA w, uA a, uA b] []).run = some (bbA (cmp op w a b) (cmpOk op), []) := by
  have e : (evalFnL Tryz.prog (lk L_aluCmp1) 20 aluCmp.LL Tryz.f79 (codeOf Tryz.f79) [iA op, bA w, uA a, uA b] []).run = bif !w then bif !decide (op < 1) then bif !decide (13 < op) then bif !decide (op = 8) then bif decide (op = 9) then some (bbA false false, []) else some (bbA (cmpU op (lo a) (lo b) (IntKind.i64.wrap (IntKind.i32.wrap (a.toNat : Int))) (IntKind.i64.wrap (IntKind.i32.wrap (b.toNat : Int)))) true, []) else some (bbA false false, []) else some (bbA false false, []) else some (bbA false false, []) else bif !decide (op < 1) then bif !decide (13 < op) then bif !decide (op = 8) then bif decide (op = 9) then some (bbA false false, []) else some (bbA (cmpU op a b a.toInt b.toInt) true, []) else some (bbA false false, []) else some (bbA false false, []) else some (bbA false false, []) := by kernel_rfl
  rw [e]
  rw [i32_eq, i32_eq]
  unfold cmp cmpOk
  cases decide (op < 1) <;> cases decide (13 < op) <;> cases decide (op = 8) <;> cases decide (op = 9) <;> cases w <;> rfl
theorem ok_aluCmp : SummOk Kn Tryz.prog 79 (sm [] (hIBUU fun op w a b => bbA (cmp op w a b) (cmpOk op))) := summ_ofL tok_aluCmp1 Tryz.checked.mixed Tryz.func79 (by kernel_rfl) (by rfl) 20 aluCmp.lok (fun args H v H' h => by
  obtain ⟨op, w, a, b, rfl, rfl, rfl, rfl⟩ := hIBUU_inv h; exact ev_aluCmp op w a b)
def L_aluCmp : List (Nat × Summ) := (79, (sm [] (hIBUU fun op w a b => bbA (cmp op w a b) (cmpOk op)))) :: L_aluCmp1
theorem tok_aluCmp : TOk Kn Tryz.prog (lk L_aluCmp) := lk_cons ok_aluCmp tok_aluCmp1

def hAdd : GG
  | [.p (.one (.w .u64 a)), .p (.one (.w .u64 b)), .p (.one (.w .u64 c))], [] => bif c == zW then some (.t [.one (.w .u64 (a + b)), .one (.w .u64 (bif decide (a.toNat + b.toNat < 18446744073709551616) then zW else BitVec.ofInt 64 1))], []) else none
  | _, _ => none
def hMul : GG
  | [.p (.one (.w .u64 a)), .p (.one (.w .u64 b))], [] => some (.t [.one (.w .u64 (BitVec.ofNat 64 (a.toNat * b.toNat / 18446744073709551616))), .one (.w .u64 (a * b))], [])
  | _, _ => none
theorem hAdd_inv {args : List AV} {H H' : Hp} {v : AV} (h : hAdd args H = some (v, H')) : ∃ a b : BitVec 64, args = [uA a, uA b, uA zW] ∧ H = [] ∧ v = .t [.one (.w .u64 (a + b)), .one (.w .u64 (bif decide (a.toNat + b.toNat < 18446744073709551616) then zW else BitVec.ofInt 64 1))] ∧ H' = [] := by
  unfold hAdd at h; split at h
  · rename_i a b c
    cases hc : (c == zW) with
    | false => rw [hc] at h; cases h
    | true =>
      rw [hc] at h
      obtain rfl : c = zW := eq_of_beq hc
      cases h; exact ⟨_, _, rfl, rfl, rfl, rfl⟩
  · cases h
theorem hMul_inv {args : List AV} {H H' : Hp} {v : AV} (h : hMul args H = some (v, H')) : ∃ a b : BitVec 64, args = [uA a, uA b] ∧ H = [] ∧ v = .t [.one (.w .u64 (BitVec.ofNat 64 (a.toNat * b.toNat / 18446744073709551616))), .one (.w .u64 (a * b))] ∧ H' = [] := by
  unfold hMul at h; split at h
  · cases h; exact ⟨_, _, rfl, rfl, rfl, rfl⟩
  · cases h
theorem ok_add64 : SummOk Kn Tryz.prog 89 (sm [] hAdd) := .inl fun r args H H' v w h _ => by
  obtain ⟨a, b, rfl, rfl, rfl, rfl⟩ := hAdd_inv h
  refine ⟨?_, rfl, fun c hc => ?_⟩
  · have := Tryz.bits_Add64 a.toNat b.toNat 0 (by omega) w
    have e0 : (zW : BitVec 64).toNat = 0 := by decide
    have ha := a.isLt
    have hb := b.isLt
    simp only [List.map_cons, List.map_nil, AV.den, Part.den, Cell.den, e0] at this ⊢
    refine Eq.trans this ?_
    have e1 : (a + b).toNat = (a.toNat + b.toNat + 0) % 18446744073709551616 := by rw [BitVec.toNat_add]; rfl
    have e2 : (bif decide (a.toNat + b.toNat < 18446744073709551616) then zW else BitVec.ofInt 64 1 : BitVec 64).toNat = (a.toNat + b.toNat + 0) / 18446744073709551616 := by
      by_cases hlt : a.toNat + b.toNat < 18446744073709551616
      · rw [decide_eq_true hlt]; simp only [cond_true, e0]; omega
      · rw [decide_eq_false hlt]; simp only [cond_false]
        have : (BitVec.ofInt 64 1).toNat = 1 := by decide
        rw [this]; omega
    rw [← e1, ← e2]; rfl
  · rcases List.mem_cons.1 hc with rfl | hc
    · trivial
    · rcases List.mem_cons.1 hc with rfl | hc
      · trivial
      · cases hc
def L_add64 : List (Nat × Summ) := (89, (sm [] hAdd)) :: L_aluCmp
theorem tok_add64 : TOk Kn Tryz.prog (lk L_add64) := lk_cons ok_add64 tok_aluCmp

theorem ok_mul64 : SummOk Kn Tryz.prog 95 (sm [] hMul) := summ_of_same ⟨Tryz.f95, Tryz.func95, (by kernel_rfl), (by kernel_rfl)⟩ (fun args H v H' h => by
  obtain ⟨a, b, rfl, rfl, rfl, rfl⟩ := hMul_inv h
  refine ⟨rfl, rfl, ?_, fun r w _ => ?_⟩
  · intro c hc
    rcases List.mem_cons.1 hc with rfl | hc
    · trivial
    · rcases List.mem_cons.1 hc with rfl | hc
      · trivial
      · cases hc
  · have := Tryz.bits_Mul64 a.toNat b.toNat a.isLt b.isLt w
    have e1 : (BitVec.ofNat 64 (a.toNat * b.toNat / 18446744073709551616)).toNat = a.toNat * b.toNat / 18446744073709551616 := by
      rw [BitVec.toNat_ofNat, Nat.mod_eq_of_lt]
      have ha := a.isLt
      have hb := b.isLt
      refine Nat.div_lt_of_lt_mul ?_
      have h2 := Nat.mul_lt_mul'' ha hb
      exact h2
    have e2 : (a * b).toNat = a.toNat * b.toNat % 18446744073709551616 := by rw [BitVec.toNat_mul]
    rw [← e1, ← e2] at this
    exact this)
def L_mul64 : List (Nat × Summ) := (95, (sm [] hMul)) :: L_add64
theorem tok_mul64 : TOk Kn Tryz.prog (lk L_mul64) := lk_cons ok_mul64 tok_add64

theorem carry_iff (d : Bool) : ((bif d then zW else BitVec.ofInt 64 1 : BitVec 64) == BitVec.ofInt 64 0) = d := by cases d <;> decide
theorem hi_iff (a b : BitVec 64) : (BitVec.ofNat 64 (a.toNat * b.toNat / 18446744073709551616) == BitVec.ofInt 64 0) = decide (a.toNat * b.toNat < 18446744073709551616) := by
  have ha := a.isLt
  have hb := b.isLt
  have h2 := Nat.mul_lt_mul'' ha hb
  have h3 : a.toNat * b.toNat / 18446744073709551616 < 18446744073709551616 := Nat.div_lt_of_lt_mul h2
  rw [Bool.eq_iff_iff, beq_iff_eq, decide_eq_true_eq, ← BitVec.toNat_inj, BitVec.toNat_ofNat, Nat.mod_eq_of_lt h3]
  have : (BitVec.ofInt 64 0).toNat = 0 := by decide
  rw [this]
  constructor
  · intro h; rcases Nat.lt_or_ge (a.toNat * b.toNat) 18446744073709551616 with h' | h'
    · exact h'
    · have := Nat.div_pos h' (by omega : 0 < 18446744073709551616); omega
  · intro h; exact Nat.div_eq_of_lt h
theorem evA_ssums (a b c : Sc) : (evalFn Tryz.prog (lk (L_mul64)) 20 Tryz.f68 (codeOf Tryz.f68) [sA a, sA b, sA c] []).run = bif ((bif decide (a.U.toNat + b.U.toNat < 18446744073709551616) then zW else BitVec.ofInt 64 1 : BitVec 64) == BitVec.ofInt 64 0) then bif !(ovA a.s b.s) then bif !(ovA a.S b.S) then some (sA ⟨c.t, (a.u + b.u), (a.U + b.U), addI a.s b.s, addI a.S b.S⟩, []) else some (sA ⟨c.t, (a.u + b.u), (a.U + b.U), c.s, c.S⟩, []) else some (sA ⟨c.t, (a.u + b.u), (a.U + b.U), c.s, c.S⟩, []) else bif !(ovA a.s b.s) then bif !(ovA a.S b.S) then some (sA ⟨c.t, c.u, c.U, addI a.s b.s, addI a.S b.S⟩, []) else some (sA ⟨c.t, c.u, c.U, c.s, c.S⟩, []) else some (sA ⟨c.t, c.u, c.U, c.s, c.S⟩, []) := by kernel_rfl
theorem ev_ssums (a b c : Sc) : (evalFn Tryz.prog (lk (L_mul64)) 20 Tryz.f68 (codeOf Tryz.f68) [sA a, sA b, sA c] []).run = some (sA (sums a b c), []) := by
  refine (evA_ssums a b c).trans ?_
  rw [carry_iff]
  unfold sums sumsI sumsU
  cases decide (a.U.toNat + b.U.toNat < 18446744073709551616) <;> cases ovA a.s b.s <;> cases ovA a.S b.S <;> rfl
theorem ok_ssums : SummOk Kn Tryz.prog 68 (sm [] (hSSS fun a b c => sA (sums a b c))) := summ_of tok_mul64 Tryz.checked.mixed Tryz.func68 (by kernel_rfl) (by rfl) 20 (fun args H v H' h => by
  obtain ⟨a, b, c, rfl, rfl, rfl, rfl⟩ := hSSS_inv h; exact ev_ssums a b c)
def L_ssums : List (Nat × Summ) := (68, (sm [] (hSSS fun a b c => sA (sums a b c)))) :: L_mul64
theorem tok_ssums : TOk Kn Tryz.prog (lk L_ssums) := lk_cons ok_ssums tok_mul64

theorem evA_srests (a b c : Sc) : (evalFn Tryz.prog (lk (L_ssums)) 20 Tryz.f70 (codeOf Tryz.f70) [sA a, sA b, sA c] []).run = bif BitVec.ule b.U a.u then bif !(ovS a.s b.S) then bif !(ovS a.S b.s) then some (sA ⟨c.t, (a.u - b.U), (a.U - b.u), subI a.s b.S, subI a.S b.s⟩, []) else some (sA ⟨c.t, (a.u - b.U), (a.U - b.u), c.s, c.S⟩, []) else some (sA ⟨c.t, (a.u - b.U), (a.U - b.u), c.s, c.S⟩, []) else bif !(ovS a.s b.S) then bif !(ovS a.S b.s) then some (sA ⟨c.t, c.u, c.U, subI a.s b.S, subI a.S b.s⟩, []) else some (sA ⟨c.t, c.u, c.U, c.s, c.S⟩, []) else some (sA ⟨c.t, c.u, c.U, c.s, c.S⟩, []) := by kernel_rfl
theorem ev_srests (a b c : Sc) : (evalFn Tryz.prog (lk (L_ssums)) 20 Tryz.f70 (codeOf Tryz.f70) [sA a, sA b, sA c] []).run = some (sA (rests a b c), []) := by
  refine (evA_srests a b c).trans ?_
  unfold rests restsI restsU
  cases BitVec.ule b.U a.u <;> cases ovS a.s b.S <;> cases ovS a.S b.s <;> rfl
theorem ok_srests : SummOk Kn Tryz.prog 70 (sm [] (hSSS fun a b c => sA (rests a b c))) := summ_of tok_ssums Tryz.checked.mixed Tryz.func70 (by kernel_rfl) (by rfl) 20 (fun args H v H' h => by
  obtain ⟨a, b, c, rfl, rfl, rfl, rfl⟩ := hSSS_inv h; exact ev_srests a b c)
def L_srests : List (Nat × Summ) := (70, (sm [] (hSSS fun a b c => sA (rests a b c)))) :: L_ssums
theorem tok_srests : TOk Kn Tryz.prog (lk L_srests) := lk_cons ok_srests tok_ssums

theorem evA_sproducts (a b c : Sc) : (evalFn Tryz.prog (lk (L_srests)) 20 Tryz.f72 (codeOf Tryz.f72) [sA a, sA b, sA c] []).run = bif (BitVec.ofNat 64 (a.U.toNat * b.U.toNat / 18446744073709551616) == BitVec.ofInt 64 0) then some (sA ⟨c.t, a.u * b.u, a.U * b.U, c.s, c.S⟩, []) else some (sA c, []) := by kernel_rfl
theorem ev_sproducts (a b c : Sc) : (evalFn Tryz.prog (lk (L_srests)) 20 Tryz.f72 (codeOf Tryz.f72) [sA a, sA b, sA c] []).run = some (sA (products a b c), []) := by
  refine (evA_sproducts a b c).trans ?_
  rw [hi_iff]
  unfold products
  cases decide (a.U.toNat * b.U.toNat < 18446744073709551616) <;> rfl
theorem ok_sproducts : SummOk Kn Tryz.prog 72 (sm [] (hSSS fun a b c => sA (products a b c))) := summ_of tok_srests Tryz.checked.mixed Tryz.func72 (by kernel_rfl) (by rfl) 20 (fun args H v H' h => by
  obtain ⟨a, b, c, rfl, rfl, rfl, rfl⟩ := hSSS_inv h; exact ev_sproducts a b c)
def L_sproducts : List (Nat × Summ) := (72, (sm [] (hSSS fun a b c => sA (products a b c)))) :: L_srests
theorem tok_sproducts : TOk Kn Tryz.prog (lk L_sproducts) := lk_cons ok_sproducts tok_srests

end
end Go.Proofs.YtlaaljiffcablaaGreatDoor
