/-
  The contracts of package scalar's functions, fourth part, over this seat's program (written by our own gen_sc4.py).
-/
import Derived.Test.YtlaaljiffcablaaGreatDoorScM
namespace Go.Proofs.YtlaaljiffcablaaGreatDoor
open Go Go.Sy Go.Tn Go.Sc
set_option linter.unusedSimpArgs false
set_option linter.unusedVariables false
noncomputable section

def ckN : List AV → Hp → Bool
  | [_, _, .p (.one (.v (.int .i64 n))), _], _ => decide (0 ≤ n)
  | _, _ => false
theorem ev_shifts (op n : Int) (a k : Sc) (hn : 0 ≤ n) : (evalFn Tryz.prog (lk L_sproducts) 20 Tryz.f76 (codeOf Tryz.f76) [iA op, sA a, iA n, sA k] []).run = some (sA (shifts op a n k), []) := by
  have e : (evalFn Tryz.prog (lk L_sproducts) 20 Tryz.f76 (codeOf Tryz.f76) [iA op, sA a, iA n, sA k] []).run = bif decide (op = 6) then bif decide (n < 0) then none else bif BitVec.ule a.U (full >>> n.toNat) then bif decide (n < 0) then none else bif decide (n < 0) then none else some (sA ⟨Tn.lsh a.t n, a.u <<< n.toNat, a.U <<< n.toNat, k.s, k.S⟩, []) else some (sA ⟨Tn.lsh a.t n, k.u, k.U, k.s, k.S⟩, []) else bif decide (op = 7) then bif decide (n < 0) then none else bif decide (n < 0) then none else some (sA ⟨Tn.rsh a.t n, a.u >>> n.toNat, a.U >>> n.toNat, k.s, k.S⟩, []) else bif decide (n < 0) then none else bif decide (n < 0) then none else some (sA ⟨Tn.arsh a.t n true, k.u, k.U, sarI a.s n, sarI a.S n⟩, []) := by kernel_rfl
  rw [e, decide_eq_false (show ¬ n < 0 by omega)]
  simp only [cond_false]
  unfold shifts shL shR shA
  cases decide (op = 6)
  · cases decide (op = 7) <;> rfl
  · cases BitVec.ule a.U (full >>> n.toNat) <;> rfl
theorem ok_shifts : SummOk Kn Tryz.prog 76 ⟨[], (hISIS fun op a n k => sA (shifts op a n k)), ckN⟩ := summ_of_eval tok_sproducts Tryz.checked.mixed Tryz.func76 (by kernel_rfl) (by rfl) 20 (fun args H v H' h hck => by
  obtain ⟨op, a, n, k, rfl, rfl, rfl, rfl⟩ := hISIS_inv (F := fun op a n k => sA (shifts op a n k)) h; exact ev_shifts op n a k (of_decide_eq_true hck))
def L_shifts : List (Nat × Summ) := (76, ⟨[], (hISIS fun op a n k => sA (shifts op a n k)), ckN⟩) :: L_sproducts
theorem tok_shifts : TOk Kn Tryz.prog (lk L_shifts) := lk_cons ok_shifts tok_sproducts

def ckWh (op : Int) (b : Sc) : Bool := bif decide (op = 3) then BitVec.ule b.u b.U else true
def ckW : List AV → Hp → Bool
  | [.p (.one (.v (.int .i64 op))), _, .p (.many [.w .u64 b1, .w .u64 b2, .w .u64 b3, .w .u64 b4, .v (.int .i64 b5), .v (.int .i64 b6)])], _ => ckWh op ⟨⟨b1, b2⟩, b3, b4, b5, b6⟩
  | _, _ => false
theorem mod64_nonneg (y : BitVec 64) : decide (0 ≤ (y % BitVec.ofInt 64 64).toInt) = true := decide_eq_true (umod_range y 64 (by decide) (by decide)).1
theorem mod32_nonneg (y : BitVec 64) : decide (0 ≤ (y % BitVec.ofInt 64 32).toInt) = true := decide_eq_true (umod_range y 32 (by decide) (by decide)).1
theorem nz_of (x : BitVec 64) (h : 0 < x.toNat) : (x == 0#64) = false := by
  cases hx : (x == 0#64) with
  | false => rfl
  | true => rw [eq_of_beq hx] at h; simp at h
theorem zW_ult (x : BitVec 64) : BitVec.ult zW x = true → 0 < x.toNat := fun h => by
  have := ult_iff.1 h
  have e : (zW : BitVec 64).toNat = 0 := by decide
  omega
theorem evA_swhole (SU : Sc → Sc → Sc → Sc) (RE : Sc → Sc → Sc → Sc) (PR : Sc → Sc → Sc → Sc) (SH : Int → Sc → Int → Sc → Sc) (TA : Tn → Tn → Tn) (TS : Tn → Tn → Tn) (TMU : Tn → Tn → Tn) (TAN : Tn → Tn → Tn) (TOR : Tn → Tn → Tn) (TXO : Tn → Tn → Tn) (IC : Sc → Bool) (op : Int) (a b : Sc) : (evalFn Tryz.prog (lk ((25, (sm [] (hS fun k => bA (IC k)))) :: (75, (sm [] (gTT fun a b => tA (TXO a b)))) :: (74, (sm [] (gTT fun a b => tA (TOR a b)))) :: (73, (sm [] (gTT fun a b => tA (TAN a b)))) :: (71, (sm [] (gTT fun a b => tA (TMU a b)))) :: (69, (sm [] (gTT fun a b => tA (TS a b)))) :: (67, (sm [] (gTT fun a b => tA (TA a b)))) :: (76, ⟨[], (hISIS fun op a n k => sA (SH op a n k)), ckN⟩) :: (72, (sm [] (hSSS fun a b k => sA (PR a b k)))) :: (70, (sm [] (hSSS fun a b k => sA (RE a b k)))) :: (68, (sm [] (hSSS fun a b k => sA (SU a b k)))) :: L_shifts)) 20 Tryz.f28 (codeOf Tryz.f28) [iA op, sA a, sA b] []).run = bif decide (op = 0) then some (sA (SU a b (base (TA a.t b.t))), []) else bif decide (op = 1) then some (sA (RE a b (base (TS a.t b.t))), []) else bif decide (op = 8) then some (sA (RE (Sc.const zW) a (base (TS (Tn.const zW) a.t))), []) else bif decide (op = 2) then some (sA (PR a b (base (TMU a.t b.t))), []) else bif decide (op = 5) then some (sA ⟨TAN a.t b.t, zW, minU a.U b.U, iMin, iMax⟩, []) else bif decide (op = 4) then some (sA ⟨TOR a.t b.t, maxU a.u b.u, full, iMin, iMax⟩, []) else bif decide (op = 10) then some (sA (base (TXO a.t b.t)), []) else bif decide (op = 3) then (bif BitVec.ult zW b.u then (bif b.U == 0#64 then none else bif b.u == 0#64 then none else some (sA ⟨unknown, a.u / b.U, a.U / b.u, iMin, iMax⟩, [])) else some (sA ⟨unknown, zW, a.U, iMin, iMax⟩, [])) else bif decide (op = 9) then (bif BitVec.ult zW b.u then some (sA ⟨unknown, zW, minU a.U (b.U - BitVec.ofInt 64 1), iMin, iMax⟩, []) else some (sA ⟨unknown, zW, a.U, iMin, iMax⟩, [])) else bif decide (op = 6) then (bif decide (op = 6) then (bif IC b then (bif decide (0 ≤ (b.u % BitVec.ofInt 64 64).toInt) then some (sA (SH op a (b.u % BitVec.ofInt 64 64).toInt all), []) else none) else bif decide (op = 7) then some (sA ⟨unknown, zW, a.U, iMin, iMax⟩, []) else some (sA all, [])) else some (sA all, [])) else bif decide (op = 7) then (bif decide (op = 7) then (bif IC b then (bif decide (0 ≤ (b.u % BitVec.ofInt 64 64).toInt) then some (sA (SH op a (b.u % BitVec.ofInt 64 64).toInt all), []) else none) else bif decide (op = 7) then some (sA ⟨unknown, zW, a.U, iMin, iMax⟩, []) else some (sA all, [])) else some (sA all, [])) else bif decide (op = 12) then (bif IC b then (bif decide (0 ≤ (b.u % BitVec.ofInt 64 64).toInt) then some (sA (SH op a (b.u % BitVec.ofInt 64 64).toInt all), []) else none) else bif decide (op = 7) then some (sA ⟨unknown, zW, a.U, iMin, iMax⟩, []) else some (sA all, [])) else some (sA all, []) := by kernel_rfl
theorem ev_swhole (op : Int) (a b : Sc) (hck : ckWh op b = true) : (evalFn Tryz.prog (lk ((25, (sm [] (hS fun k => bA (isConst k)))) :: (75, (sm [] (gTT fun a b => tA (Tn.xor a b)))) :: (74, (sm [] (gTT fun a b => tA (Tn.or a b)))) :: (73, (sm [] (gTT fun a b => tA (Tn.and a b)))) :: (71, (sm [] (gTT fun a b => tA (Tn.mul a b)))) :: (69, (sm [] (gTT fun a b => tA (Tn.sub a b)))) :: (67, (sm [] (gTT fun a b => tA (Tn.add a b)))) :: (76, ⟨[], (hISIS fun op a n k => sA (shifts op a n k)), ckN⟩) :: (72, (sm [] (hSSS fun a b k => sA (products a b k)))) :: (70, (sm [] (hSSS fun a b k => sA (rests a b k)))) :: (68, (sm [] (hSSS fun a b k => sA (sums a b k)))) :: L_shifts)) 20 Tryz.f28 (codeOf Tryz.f28) [iA op, sA a, sA b] []).run = some (sA (whole op a b), []) := by
  refine (evA_swhole sums rests products shifts Tn.add Tn.sub Tn.mul Tn.and Tn.or Tn.xor isConst op a b).trans ?_
  unfold whole sh64 divs mods
  rw [mod64_nonneg]
  simp only [cond_true]
  cases h0 : decide (op = 0)
  case true =>
    simp only [cond_true, cond_false]
  simp only [cond_false]
  cases h1 : decide (op = 1)
  case true =>
    simp only [cond_true, cond_false]
  simp only [cond_false]
  cases h8 : decide (op = 8)
  case true =>
    simp only [cond_true, cond_false]
  simp only [cond_false]
  cases h2 : decide (op = 2)
  case true =>
    simp only [cond_true, cond_false]
  simp only [cond_false]
  cases h5 : decide (op = 5)
  case true =>
    simp only [cond_true, cond_false]
  simp only [cond_false]
  cases h4 : decide (op = 4)
  case true =>
    simp only [cond_true, cond_false]
  simp only [cond_false]
  cases h10 : decide (op = 10)
  case true =>
    simp only [cond_true, cond_false]
  simp only [cond_false]
  cases h3 : decide (op = 3)
  case true =>
    simp only [cond_true, cond_false]
    cases hu : BitVec.ult zW b.u with
    | false => simp only [cond_false]
    | true =>
      have h1 := zW_ult _ hu
      have h2 : b.u.toNat ≤ b.U.toNat := by unfold ckWh at hck; rw [h3] at hck; exact ule_iff.1 hck
      rw [nz_of b.U (by omega), nz_of b.u h1]; simp only [cond_true, cond_false]
  simp only [cond_false]
  cases h9 : decide (op = 9)
  case true =>
    simp only [cond_true, cond_false]
    cases BitVec.ult zW b.u <;> simp only [cond_true, cond_false]
  simp only [cond_false]
  cases h6 : decide (op = 6)
  case true =>
    simp only [cond_true, cond_false]
    cases isConst b <;> cases decide (op = 7) <;> simp only [cond_true, cond_false]
  simp only [cond_false]
  cases h7 : decide (op = 7)
  case true =>
    simp only [cond_true, cond_false]
    cases isConst b <;> cases decide (op = 7) <;> simp only [cond_true, cond_false]
  simp only [cond_false]
  cases h12 : decide (op = 12)
  case true =>
    simp only [cond_true, cond_false]
    cases isConst b <;> cases decide (op = 7) <;> simp only [cond_true, cond_false]
  simp only [cond_false]

theorem ok_swhole : SummOk Kn Tryz.prog 28 ⟨[], (hISS fun op a b => sA (whole op a b)), ckW⟩ := summ_of_eval (lk_cons ok_sisConst (lk_cons ok_xor (lk_cons ok_or (lk_cons ok_and (lk_cons ok_mul (lk_cons ok_sub (lk_cons ok_add (lk_cons ok_shifts (lk_cons ok_sproducts (lk_cons ok_srests (lk_cons ok_ssums tok_shifts))))))))))) Tryz.checked.mixed Tryz.func28 (by kernel_rfl) (by rfl) 20 (fun args H v H' h hck => by
  obtain ⟨op, a, b, rfl, rfl, rfl, rfl⟩ := hISS_inv (F := fun op a b => sA (whole op a b)) h; exact ev_swhole op a b hck)
def L_swhole : List (Nat × Summ) := (28, ⟨[], (hISS fun op a b => sA (whole op a b)), ckW⟩) :: L_shifts
theorem tok_swhole : TOk Kn Tryz.prog (lk L_swhole) := lk_cons ok_swhole tok_shifts

theorem low_ck (op : Int) (k : Sc) : ckWh op (Sc.low k) = true := by
  unfold ckWh
  cases decide (op = 3)
  · rfl
  · exact ule_iff.2 (low_good k).st.live.u
theorem right_ck (op : Int) (k : Sc) : ckWh op (Sc.right k) = true := by
  unfold ckWh
  cases decide (op = 3)
  · rfl
  · refine ule_iff.2 ?_
    unfold Sc.right
    cases h : is k with
    | true => exact (is_iff.1 h).live.u
    | false => exact all_stable.live.u
theorem evA_spart (LW : Sc → Sc) (Y : Sc → Sc) (SH : Int → Sc → Int → Sc → Sc) (WH : Int → Sc → Sc → Sc) (IC : Sc → Bool) (TAR : Tn → Int → Bool → Tn) (op : Int) (a b : Sc) : (evalFn Tryz.prog (lk ((77, (sm [] (gTIB fun a n w => tA (TAR a n w)))) :: (25, (sm [] (hS fun k => bA (IC k)))) :: (28, ⟨[], (hISS fun op a b => sA (WH op a b)), ckW⟩) :: (76, ⟨[], (hISIS fun op a n k => sA (SH op a n k)), ckN⟩) :: (27, (sm [] (hS fun k => sA (Y k)))) :: (26, (sm [] (hS fun k => sA (LW k)))) :: L_swhole)) 20 Tryz.f29 (codeOf Tryz.f29) [iA op, sA a, sA b] []).run = bif !decide (op = 6) then bif !decide (op = 7) then bif decide (op = 12) then (bif !IC (LW b) then some (sA (LW all), []) else bif decide (op = 12) then some (sA (base (TAR (LW a).t ((LW b).u % BitVec.ofInt 64 32).toInt false)), []) else bif decide (0 ≤ ((LW b).u % BitVec.ofInt 64 32).toInt) then some (sA (LW (Y (SH op (LW a) ((LW b).u % BitVec.ofInt 64 32).toInt all))), []) else none) else (bif ckWh op (LW b) then some (sA (LW (Y (WH op (LW a) (LW b)))), []) else none) else (bif !IC (LW b) then some (sA (LW all), []) else bif decide (op = 12) then some (sA (base (TAR (LW a).t ((LW b).u % BitVec.ofInt 64 32).toInt false)), []) else bif decide (0 ≤ ((LW b).u % BitVec.ofInt 64 32).toInt) then some (sA (LW (Y (SH op (LW a) ((LW b).u % BitVec.ofInt 64 32).toInt all))), []) else none) else (bif !IC (LW b) then some (sA (LW all), []) else bif decide (op = 12) then some (sA (base (TAR (LW a).t ((LW b).u % BitVec.ofInt 64 32).toInt false)), []) else bif decide (0 ≤ ((LW b).u % BitVec.ofInt 64 32).toInt) then some (sA (LW (Y (SH op (LW a) ((LW b).u % BitVec.ofInt 64 32).toInt all))), []) else none) := by kernel_rfl
theorem ev_spart (op : Int) (a b : Sc) : (evalFn Tryz.prog (lk ((77, (sm [] (gTIB fun a n w => tA (Tn.arsh a n w)))) :: (25, (sm [] (hS fun k => bA (isConst k)))) :: (28, ⟨[], (hISS fun op a b => sA (whole op a b)), ckW⟩) :: (76, ⟨[], (hISIS fun op a n k => sA (shifts op a n k)), ckN⟩) :: (27, (sm [] (hS fun k => sA (synced k)))) :: (26, (sm [] (hS fun k => sA (Sc.low k)))) :: L_swhole)) 20 Tryz.f29 (codeOf Tryz.f29) [iA op, sA a, sA b] []).run = some (sA (Sc.part op a b), []) := by
  refine (evA_spart Sc.low synced shifts whole isConst Tn.arsh op a b).trans ?_
  rw [low_ck, mod32_nonneg]
  simp only [cond_true]
  unfold Sc.part part' isSh
  cases decide (op = 6) <;> cases decide (op = 7) <;> cases decide (op = 12) <;> cases isConst (Sc.low b) <;> simp only [cond_true, cond_false, Bool.not_true, Bool.not_false, Bool.and_true, Bool.true_and, Bool.false_and, Bool.and_false]
theorem ok_spart : SummOk Kn Tryz.prog 29 (sm [] (hISS fun op a b => sA (Sc.part op a b))) := summ_of (lk_cons ok_arsh (lk_cons ok_sisConst (lk_cons ok_swhole (lk_cons ok_shifts (lk_cons ok_ssynced (lk_cons ok_slow tok_swhole)))))) Tryz.checked.mixed Tryz.func29 (by kernel_rfl) (by rfl) 20 (fun args H v H' h => by
  obtain ⟨op, a, b, rfl, rfl, rfl, rfl⟩ := hISS_inv (F := fun op a b => sA (Sc.part op a b)) h; exact ev_spart op a b)
def L_spart : List (Nat × Summ) := (29, (sm [] (hISS fun op a b => sA (Sc.part op a b)))) :: L_swhole
theorem tok_spart : TOk Kn Tryz.prog (lk L_spart) := lk_cons ok_spart tok_swhole

theorem evA_sdo (R : Sc → Sc) (AL : Int → Bool → BitVec 64 → BitVec 64 → BitVec 64) (OK : Int → Bool) (LW : Sc → Sc) (Y : Sc → Sc) (WH : Int → Sc → Sc → Sc) (PA : Int → Sc → Sc → Sc) (IC : Sc → Bool) (op : Int) (w : Bool) (a b : Sc) : (evalFn Tryz.prog (lk ((25, (sm [] (hS fun k => bA (IC k)))) :: (29, (sm [] (hISS fun op a b => sA (PA op a b)))) :: (28, ⟨[], (hISS fun op a b => sA (WH op a b)), ckW⟩) :: (27, (sm [] (hS fun k => sA (Y k)))) :: (26, (sm [] (hS fun k => sA (LW k)))) :: (8, (sm [] (hIBUU fun op w x y => ubA (AL op w x y) (OK op)))) :: (24, (sm [] (hS fun k => sA (R k)))) :: L_spart)) 20 Tryz.f9 (codeOf Tryz.f9) [iA op, bA w, sA a, sA b] []).run = bif !OK op then some (sA all, []) else bif IC (R a) then (bif !IC (R b) then (bif IC (R a) then (bif decide (op = 8) then some (sA (Sc.const (AL op w (R a).u (R b).u)), []) else (bif decide (op = 11) then (bif w then some (sA (R b), []) else (bif decide (op = 11) then some (sA (LW (R b)), []) else bif w then (bif ckWh op (R b) then some (sA (Y (WH op (R a) (R b))), []) else none) else some (sA (Y (PA op (R a) (R b))), []))) else (bif decide (op = 11) then some (sA (LW (R b)), []) else bif w then (bif ckWh op (R b) then some (sA (Y (WH op (R a) (R b))), []) else none) else some (sA (Y (PA op (R a) (R b))), [])))) else (bif decide (op = 11) then (bif w then some (sA (R b), []) else (bif decide (op = 11) then some (sA (LW (R b)), []) else bif w then (bif ckWh op (R b) then some (sA (Y (WH op (R a) (R b))), []) else none) else some (sA (Y (PA op (R a) (R b))), []))) else (bif decide (op = 11) then some (sA (LW (R b)), []) else bif w then (bif ckWh op (R b) then some (sA (Y (WH op (R a) (R b))), []) else none) else some (sA (Y (PA op (R a) (R b))), [])))) else some (sA (Sc.const (AL op w (R a).u (R b).u)), [])) else (bif IC (R a) then (bif decide (op = 8) then some (sA (Sc.const (AL op w (R a).u (R b).u)), []) else (bif decide (op = 11) then (bif w then some (sA (R b), []) else (bif decide (op = 11) then some (sA (LW (R b)), []) else bif w then (bif ckWh op (R b) then some (sA (Y (WH op (R a) (R b))), []) else none) else some (sA (Y (PA op (R a) (R b))), []))) else (bif decide (op = 11) then some (sA (LW (R b)), []) else bif w then (bif ckWh op (R b) then some (sA (Y (WH op (R a) (R b))), []) else none) else some (sA (Y (PA op (R a) (R b))), [])))) else (bif decide (op = 11) then (bif w then some (sA (R b), []) else (bif decide (op = 11) then some (sA (LW (R b)), []) else bif w then (bif ckWh op (R b) then some (sA (Y (WH op (R a) (R b))), []) else none) else some (sA (Y (PA op (R a) (R b))), []))) else (bif decide (op = 11) then some (sA (LW (R b)), []) else bif w then (bif ckWh op (R b) then some (sA (Y (WH op (R a) (R b))), []) else none) else some (sA (Y (PA op (R a) (R b))), [])))) := by kernel_rfl
theorem ev_sdo (op : Int) (w : Bool) (a b : Sc) : (evalFn Tryz.prog (lk ((25, (sm [] (hS fun k => bA (isConst k)))) :: (29, (sm [] (hISS fun op a b => sA (Sc.part op a b)))) :: (28, ⟨[], (hISS fun op a b => sA (whole op a b)), ckW⟩) :: (27, (sm [] (hS fun k => sA (synced k)))) :: (26, (sm [] (hS fun k => sA (Sc.low k)))) :: (8, (sm [] (hIBUU fun op w x y => ubA (Sc.alu op w x y) (opOk op)))) :: (24, (sm [] (hS fun k => sA (Sc.right k)))) :: L_spart)) 20 Tryz.f9 (codeOf Tryz.f9) [iA op, bA w, sA a, sA b] []).run = some (sA (doS op w a b), []) := by
  refine (evA_sdo Sc.right Sc.alu opOk Sc.low synced whole Sc.part isConst op w a b).trans ?_
  rw [right_ck]
  simp only [cond_true]
  unfold doS do'
  cases opOk op <;> cases isConst (Sc.right a) <;> cases isConst (Sc.right b) <;> cases decide (op = 8) <;> cases decide (op = 11) <;> cases w <;> simp only [cond_true, cond_false, Bool.not_true, Bool.not_false, Bool.and_true, Bool.true_and, Bool.false_and, Bool.and_false]
theorem ok_sdo : SummOk Kn Tryz.prog 9 (sm [] (hIBSS fun op w a b => sA (doS op w a b))) := summ_of (lk_cons ok_sisConst (lk_cons ok_spart (lk_cons ok_swhole (lk_cons ok_ssynced (lk_cons ok_slow (lk_cons ok_aluDo (lk_cons ok_sright tok_spart))))))) Tryz.checked.mixed Tryz.func9 (by kernel_rfl) (by rfl) 20 (fun args H v H' h => by
  obtain ⟨op, w, a, b, rfl, rfl, rfl, rfl⟩ := hIBSS_inv h; exact ev_sdo op w a b)
def L_sdo : List (Nat × Summ) := (9, (sm [] (hIBSS fun op w a b => sA (doS op w a b)))) :: L_spart
theorem tok_sdo : TOk Kn Tryz.prog (lk L_sdo) := lk_cons ok_sdo tok_spart

end
end Go.Proofs.YtlaaljiffcablaaGreatDoor
