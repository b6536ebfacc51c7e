/-
  ScalarClosed: by a comparison of its two ends a number is brought into any range, and nowhere else; no condition but that the table math/bits.deBruijn64tab holds what its initialiser lays.
-/
import Derived.Test.YtlllbgcfhfgaeaaDoorScZ
import Derived.Test.YtlllbgcfhfgaeaaDoorLaid
import Derived.Test.YtlllbgcfhfgaeaaDoorCards
namespace Go.Proofs.YtlllbgcfhfgaeaaDoor.lScalarClosed
open Go Go.Sy Go.Tn Go.Sc Go.Proofs.YtlllbgcfhfgaeaaDoor
set_option linter.unusedSimpArgs false
set_option linter.unusedVariables false
noncomputable section

namespace rg1
def path : List Nat := [0, 1, 1, 1, 1, 1]
def K : List Nat := [0, 1, 2, 6, 7, 8]
def K2 : List Nat := [0, 1, 2, 6, 7, 8, 9, 10, 11]
def orc : St → Option (Ex × St)
  | ⟨[(0, .p (.one (.w .u64 l))), (1, .p (.one (.w .u64 m))), (2, .p (.one (.w .u64 x))), (6, .p (.one (.v (.bool r)))), (7, .p (.one (.p 0 0))), (8, .p (.one (.p 1 0)))], [[.w .u64 y1, .w .u64 y2, .w .u64 y3, .w .u64 y4, .v (.int .i64 y5), .v (.int .i64 y6)], [.w .u64 z1, .w .u64 z2, .w .u64 z3, .w .u64 z4, .v (.int .i64 z5), .v (.int .i64 z6)]]⟩ => some (.normal, ⟨[(0, .p (.one (.w .u64 l))), (1, .p (.one (.w .u64 m))), (2, .p (.one (.w .u64 x))), (6, .p (.one (.v (.bool r)))), (7, .p (.one (.p 0 0))), (8, .p (.one (.p 1 0))), (9, .p (.one (.v (.bool (brO 11 true true ⟨⟨y1, y2⟩, y3, y4, y5, y6⟩ (Sc.const m)))))), (10, .p (.one (.p 2 0))), (11, .p (.one (.p 3 0)))], [[.w .u64 y1, .w .u64 y2, .w .u64 y3, .w .u64 y4, .v (.int .i64 y5), .v (.int .i64 y6)], [.w .u64 z1, .w .u64 z2, .w .u64 z3, .w .u64 z4, .v (.int .i64 z5), .v (.int .i64 z6)], (sC (brA 11 true true ⟨⟨y1, y2⟩, y3, y4, y5, y6⟩ (Sc.const m))), (sC (brB 11 true true ⟨⟨y1, y2⟩, y3, y4, y5, y6⟩ (Sc.const m)))]⟩)
  | _ => none
theorem reg (l m x : BitVec 64) (r : Bool) (y1 y2 y3 y4 : BitVec 64) (y5 y6 : Int) (z1 z2 z3 z4 : BitVec 64) (z5 z6 : Int) : (drawL Tryd.prog (lk ((20, (sm [] (hSU fun k n => bA (Sc.has k n)))) :: (17, (sm [] (g0 (sA all)))) :: (13, (sm [] (gU fun n => sA (Sc.const n)))) :: (16, (sm [] (hIBBSS fun op w t a b => ssbA (brA op w t a b) (brB op w t a b) (brO op w t a b)))) :: L_lmade)) Tryd.f5.ntmps (opsAt (codeOf Tryd.f5) path) (opsAt (codeOf Tryd.f5) path).size (Array.replicate (opsAt (codeOf Tryd.f5) path).size false) [] ⟨[(0, .p (.one (.w .u64 l))), (1, .p (.one (.w .u64 m))), (2, .p (.one (.w .u64 x))), (6, .p (.one (.v (.bool r)))), (7, .p (.one (.p 0 0))), (8, .p (.one (.p 1 0)))], [[.w .u64 y1, .w .u64 y2, .w .u64 y3, .w .u64 y4, .v (.int .i64 y5), .v (.int .i64 y6)], [.w .u64 z1, .w .u64 z2, .w .u64 z3, .w .u64 z4, .v (.int .i64 z5), .v (.int .i64 z6)]]⟩).run.bind (permAll 2 K2 [[], [0, 1, 3, 2], [], [], [0, 1, 3, 2], [0, 1, 3, 2], [], [], [], [0, 1, 3, 2], [0, 1, 3, 2], [0, 1, 3, 2]]) = some (List.replicate 12 ⟨[(0, .p (.one (.w .u64 l))), (1, .p (.one (.w .u64 m))), (2, .p (.one (.w .u64 x))), (6, .p (.one (.v (.bool r)))), (7, .p (.one (.p 0 0))), (8, .p (.one (.p 1 0))), (9, .p (.one (.v (.bool (brO 11 true true ⟨⟨y1, y2⟩, y3, y4, y5, y6⟩ (Sc.const m)))))), (10, .p (.one (.p 2 0))), (11, .p (.one (.p 3 0)))], [[.w .u64 y1, .w .u64 y2, .w .u64 y3, .w .u64 y4, .v (.int .i64 y5), .v (.int .i64 y6)], [.w .u64 z1, .w .u64 z2, .w .u64 z3, .w .u64 z4, .v (.int .i64 z5), .v (.int .i64 z6)], (sC (brA 11 true true ⟨⟨y1, y2⟩, y3, y4, y5, y6⟩ (Sc.const m))), (sC (brB 11 true true ⟨⟨y1, y2⟩, y3, y4, y5, y6⟩ (Sc.const m)))]⟩) := by kernel_rfl
end rg1
def LL : LT := (oneL rg1.path rg1.K rg1.K2 rg1.orc noL)
theorem lok : LOk Tryd.prog (lk ((20, (sm [] (hSU fun k n => bA (Sc.has k n)))) :: (17, (sm [] (g0 (sA all)))) :: (13, (sm [] (gU fun n => sA (Sc.const n)))) :: (16, (sm [] (hIBBSS fun op w t a b => ssbA (brA op w t a b) (brB op w t a b) (brO op w t a b)))) :: L_lmade)) Tryd.f5.ntmps 20 LL (codeOf Tryd.f5) := (lok_regP (noL_ok2 _ _ _ _ _ _) (by kernel_rfl) 12 [[], [0, 1, 3, 2], [], [], [0, 1, 3, 2], [0, 1, 3, 2], [], [], [], [0, 1, 3, 2], [0, 1, 3, 2], [0, 1, 3, 2]] fun st ex st' h => by
    unfold rg1.orc at h
    split at h
    · injection h with h
      injection h with h1 h2
      subst h1; subst h2
      exact ⟨rfl, 2, rfl, rg1.reg _ _ _ _ _ _ _ _ _ _ _ _ _ _ _ _⟩
    · cases h)
theorem evA (l m x : BitVec 64) : (evalFnL Tryd.prog (lk ((20, (sm [] (hSU fun k n => bA (Sc.has k n)))) :: (17, (sm [] (g0 (sA all)))) :: (13, (sm [] (gU fun n => sA (Sc.const n)))) :: (16, (sm [] (hIBBSS fun op w t a b => ssbA (brA op w t a b) (brB op w t a b) (brO op w t a b)))) :: L_lmade)) 20 LL Tryd.f5 (codeOf Tryd.f5) [uA l, uA m, uA x] []).run = bif BitVec.ult m l then some (bA true, []) else bif !(brO 3 true true all (Sc.const l)) then some (bA false, []) else bif !!(brO 11 true true (brA 3 true true all (Sc.const l)) (Sc.const m)) then bif !((brA 11 true true (brA 3 true true all (Sc.const l)) (Sc.const m)).u != l) then bif (brA 11 true true (brA 3 true true all (Sc.const l)) (Sc.const m)).U != m then some (bA false, []) else (bif BitVec.ule l x then some (bA (Sc.has (brA 11 true true (brA 3 true true all (Sc.const l)) (Sc.const m)) x == BitVec.ule x m), []) else some (bA (Sc.has (brA 11 true true (brA 3 true true all (Sc.const l)) (Sc.const m)) x == false), [])) else some (bA false, []) else some (bA false, []) := by kernel_rfl
theorem ev (l m x : BitVec 64) : (evalFnL Tryd.prog (lk ((20, (sm [] (hSU fun k n => bA (Sc.has k n)))) :: (17, (sm [] (g0 (sA all)))) :: (13, (sm [] (gU fun n => sA (Sc.const n)))) :: (16, (sm [] (hIBBSS fun op w t a b => ssbA (brA op w t a b) (brB op w t a b) (brO op w t a b)))) :: L_lmade)) 20 LL Tryd.f5 (codeOf Tryd.f5) [uA l, uA m, uA x] []).run = some (bA true, []) := by
  refine (evA l m x).trans ?_
  cases hu : BitVec.ult m l with
  | true => rfl
  | false =>
    have hlm := ult_not.1 hu
    have c3 : cmpOk 3 = true := rfl
    have c11 : cmpOk 11 = true := rfl
    have in1 : ∀ q : BitVec 64, l.toNat ≤ q.toNat → cmp 3 true q l = true := fun q hq => by rw [cmp_wide c3, c64_3]; exact ule_iff.2 hq
    have in2 : ∀ q : BitVec 64, q.toNat ≤ m.toNat → cmp 11 true q m = true := fun q hq => by rw [cmp_wide c11, c64_11]; exact ule_iff.2 hq
    obtain ⟨s, v, hs, hsl, _⟩ := branch_has all_good (const_good l) (all_has l) (const_has.2 (rfl : l = l)) c3 (in1 l (Nat.le_refl _))
    obtain ⟨gs, _, ss, _⟩ := branch_in all_good (const_good l) c3 hs
    have hin : ∀ q : BitVec 64, l.toNat ≤ q.toNat → Has s q := fun q hq => by
      obtain ⟨s', v', hs', hq', _⟩ := branch_has all_good (const_good l) (all_has q) (const_has.2 (rfl : l = l)) c3 (in1 q hq)
      rw [hs] at hs'
      injection hs' with hs'
      injection hs' with e1 e2
      subst e1; exact hq'
    have hge := ge_bound all_good hs
    obtain ⟨t, v2, ht, htl, _⟩ := branch_has gs (const_good m) (hin l (Nat.le_refl _)) (const_has.2 (rfl : m = m)) c11 (in2 l hlm)
    obtain ⟨gt, _, st, _⟩ := branch_in gs (const_good m) c11 ht
    have hint : ∀ q : BitVec 64, l.toNat ≤ q.toNat → q.toNat ≤ m.toNat → Has t q := fun q hq hq2 => by
      obtain ⟨t', v', ht', hq', _⟩ := branch_has gs (const_good m) (hin q hq) (const_has.2 (rfl : m = m)) c11 (in2 q hq2)
      rw [ht] at ht'
      injection ht' with ht'
      injection ht' with e1 e2
      subst e1; exact hq'
    have hle := le_bound gs ht
    have hm := hint m hlm (Nat.le_refl _)
    have eu : t.u = l := BitVec.eq_of_toNat_eq (by have := st.u; have := htl.u; omega)
    have eU : t.U = m := BitVec.eq_of_toNat_eq (by have := hm.U; omega)
    have e1 : brA 3 true true all (Sc.const l) = s := by unfold brA; rw [hs]; rfl
    have e2 : brO 3 true true all (Sc.const l) = true := by unfold brO; rw [hs]; rfl
    have e3 : brA 11 true true s (Sc.const m) = t := by unfold brA; rw [ht]; rfl
    have e4 : brO 11 true true s (Sc.const m) = true := by unfold brO; rw [ht]; rfl
    rw [e1, e2, e3, e4, eu, eU]
    simp only [bne_self_eq_false, cond_true, cond_false, Bool.not_true, Bool.not_false]
    cases h1 : BitVec.ule l x with
    | true =>
      simp only [cond_true]
      have : Sc.has t x = BitVec.ule x m := by
        rw [Bool.eq_iff_iff, Sc.has_iff, ule_iff]
        constructor
        · intro h; have := h.U; rw [eU] at this; exact this
        · intro h; exact hint x (ule_iff.1 h1) h
      rw [this]; simp
    | false =>
      simp only [cond_false]
      have : Sc.has t x = false := by
        cases hh : Sc.has t x with
        | false => rfl
        | true =>
          have := (Sc.has_iff.1 hh).u
          rw [eu] at this
          rw [ule_iff.2 this] at h1; cases h1
      rw [this]; rfl

theorem lifted (os : Os) (started : os.Started) : ∀ {H : Type} (enc : TypeId × Value → H), ReturnsInHanded {} Tryd.checked os 5 .any (fun w args => (Rows.scalarClosedSpec.pre enc Tryd.prog Tryd.f5 [] false w args ∧ laidMetH Tryd.prog [("math/bits.deBruijn64tab", Rows.laid_math_bits_deBruijn64tab)] w) ∧ sizedMet enc Tryd.prog Tryd.f5 (OpenSpec.ofChange Rows.scalarClosedSpec) false w args)
    (Rows.scalarClosedSpec.post enc Tryd.prog Tryd.f5 false true false false) := by
  intro H enc
  refine law_lifted_laid (K := Kn) (by kernel_rfl) (by kernel_rfl) started (by kernel_rfl) Tryd.func5 rfl ?_ rfl (by kernel_rfl) ?_ (fun W h => tab_of_laid h)
    (ChangeSpec.witness_at (enc := enc) (C := Tryd.checked) (os := os) (X := fun w _ => laidMetH Tryd.prog [("math/bits.deBruijn64tab", Rows.laid_math_bits_deBruijn64tab)] w) false (laidWorld os) #[.int .u64 0, .int .u64 0, .int .u64 0] 8 rfl (by kernel_rfl) (by kernel_rfl) (by kernel_rfl) (by kernel_rfl) (by kernel_rfl) (laidWorld_met os _)) ?_
  · exact of_decide_eq_true (by kernel_rfl)
  · intro ds hds
    match ds, hds with
    | [d0, d1, d2], _ => rfl
  · refine law_flatL (lk_cons ok_shas (lk_cons ok_sunknown (lk_cons ok_sconst (lk_cons ok_sbranch tok_lmade)))) Tryd.checked.mixed Tryd.func5 (by rfl) 20 4 lok (sh := [.one (.i .u64), .one (.i .u64), .one (.i .u64)]) (by kernel_rfl) fun l hl => ?_
    obtain ⟨cc0, l0, rfl, ck0, hz0⟩ := FA_one hl
    obtain ⟨l, rfl⟩ := CK1_u rfl ck0
    obtain ⟨cc1, l1, rfl, ck1, hz1⟩ := FA_one hz0
    obtain ⟨m, rfl⟩ := CK1_u rfl ck1
    obtain ⟨cc2, l2, rfl, ck2, hz2⟩ := FA_one hz1
    obtain ⟨x, rfl⟩ := CK1_u rfl ck2
    cases FA_nil hz2
    exact ev l m x

theorem over : Rows.scalarClosedRow.holds Tryd.pinned (OpenSpec.ofChange Rows.scalarClosedSpec) :=
  OpenClaim.holds_of_wide 5 Tryd.f5 rfl rfl rfl rfl rfl rfl rfl ⟨rfl, rfl, rfl, rfl, rfl⟩ rfl rfl rfl rfl rfl (by kernel_rfl) Tryd.func5 (by kernel_rfl)
    (of_decide_eq_true (by kernel_rfl)) (by unfold Func.isWrapper; first | (rw [if_pos (by decide +kernel)]; kernel_rfl) | (rw [if_neg (by decide +kernel)]; exact ⟨rfl, rfl⟩))
    (fun os started H enc _ => lifted os started enc)
theorem holds : Rows.ScalarClosedCardSaid :=
  Claim7.holds_tied_plain_at .later [] [.data] true (true, "d3be37834a149cbf1812c319928bc56efe8423ada25c4b3c039826ee47bc29e4") false
    over (fun _ h => by cases h) (by kernel_rfl) (fun _ h => by cases h) scalarClosed_row_tie rfl ⟨rfl, rfl⟩ (by kernel_rfl) rfl
    (fun f fn hf hfn => by
      obtain rfl : f = 5 := Option.some.inj ((show Tryd.prog.funcNamed "barbican/barbicanlaw7.ScalarClosed" = some 5 by kernel_rfl).symm.trans hf) |>.symm
      obtain rfl : fn = Tryd.f5 := (Option.some.inj (Tryd.func5.symm.trans hfn)).symm
      exact ⟨by kernel_rfl, fun j t ht => by
        have hall : ∀ t ∈ Tryd.f5.params.toList, Tryd.prog.wantsStandIn t = false := of_decide_eq_true (by kernel_rfl)
        exact hall t (Array.mem_toList_iff.2 (Array.mem_of_getElem? ht))⟩)
    (by kernel_rfl)

end
end Go.Proofs.YtlllbgcfhfgaeaaDoor.lScalarClosed
