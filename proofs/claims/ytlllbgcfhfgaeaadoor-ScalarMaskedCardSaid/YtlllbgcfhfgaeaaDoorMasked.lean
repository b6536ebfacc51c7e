/-
  ScalarMasked: what is masked by a constant is at most it, whatever it was; no condition but that the table math/bits.deBruijn64tab holds what its initialiser lays.
-/
import Derived.Test.YtlllbgcfhfgaeaaDoorScZ
import Derived.Test.YtlllbgcfhfgaeaaDoorLaid
import Derived.Test.YtlllbgcfhfgaeaaDoorCards
namespace Go.Proofs.YtlllbgcfhfgaeaaDoor.lScalarMasked
open Go Go.Sy Go.Tn Go.Sc Go.Proofs.YtlllbgcfhfgaeaaDoor
set_option linter.unusedSimpArgs false
set_option linter.unusedVariables false
noncomputable section

namespace rg1
def path : List Nat := [0, 1, 1, 1]
def K : List Nat := [1, 2, 6, 7]
def K2 : List Nat := [1, 2, 6, 7, 8]
def orc : St → Option (Ex × St)
  | ⟨[(1, .p (.one (.w .u64 k))), (2, .p (.one (.v (.bool w)))), (6, .p (.one (.v (.bool r)))), (7, .p (.one (.p 1 0)))], [[.w .u64 p1, .w .u64 p2, .w .u64 p3, .w .u64 p4], [.w .u64 y1, .w .u64 y2, .w .u64 y3, .w .u64 y4, .v (.int .i64 y5), .v (.int .i64 y6)]]⟩ => some (.normal, ⟨[(1, .p (.one (.w .u64 k))), (2, .p (.one (.v (.bool w)))), (6, .p (.one (.v (.bool r)))), (7, .p (.one (.p 1 0))), (8, .p (.one (.p 2 0)))], [[.w .u64 p1, .w .u64 p2, .w .u64 p3, .w .u64 p4], [.w .u64 y1, .w .u64 y2, .w .u64 y3, .w .u64 y4, .v (.int .i64 y5), .v (.int .i64 y6)], (sC (doS 5 w ⟨⟨y1, y2⟩, y3, y4, y5, y6⟩ (Sc.const k)))]⟩)
  | _ => none
theorem reg (p1 p2 p3 p4 k : BitVec 64) (w r : Bool) (y1 y2 y3 y4 : BitVec 64) (y5 y6 : Int) : (drawL Tryd.prog (lk ((20, (sm [] (hSU fun k n => bA (Sc.has k n)))) :: (17, (sm [] (g0 (sA all)))) :: (13, (sm [] (gU fun n => sA (Sc.const n)))) :: (12, (sm [] (hIBSS fun op w a b => sA (doS op w a b)))) :: (21, (sm [] (hL4 fun a b c d => sA (mk4 a b c d)))) :: L_lmade)) Tryd.f7.ntmps (opsAt (codeOf Tryd.f7) path) (opsAt (codeOf Tryd.f7) path).size (Array.replicate (opsAt (codeOf Tryd.f7) path).size false) [] ⟨[(1, .p (.one (.w .u64 k))), (2, .p (.one (.v (.bool w)))), (6, .p (.one (.v (.bool r)))), (7, .p (.one (.p 1 0)))], [[.w .u64 p1, .w .u64 p2, .w .u64 p3, .w .u64 p4], [.w .u64 y1, .w .u64 y2, .w .u64 y3, .w .u64 y4, .v (.int .i64 y5), .v (.int .i64 y6)]]⟩).run.bind (permAll 2 K2 [[], [], []]) = some (List.replicate 3 ⟨[(1, .p (.one (.w .u64 k))), (2, .p (.one (.v (.bool w)))), (6, .p (.one (.v (.bool r)))), (7, .p (.one (.p 1 0))), (8, .p (.one (.p 2 0)))], [[.w .u64 p1, .w .u64 p2, .w .u64 p3, .w .u64 p4], [.w .u64 y1, .w .u64 y2, .w .u64 y3, .w .u64 y4, .v (.int .i64 y5), .v (.int .i64 y6)], (sC (doS 5 w ⟨⟨y1, y2⟩, y3, y4, y5, y6⟩ (Sc.const k)))]⟩) := by kernel_rfl
end rg1
def LL : LT := (oneL rg1.path rg1.K rg1.K2 rg1.orc noL)
theorem lok : LOk Tryd.prog (lk ((20, (sm [] (hSU fun k n => bA (Sc.has k n)))) :: (17, (sm [] (g0 (sA all)))) :: (13, (sm [] (gU fun n => sA (Sc.const n)))) :: (12, (sm [] (hIBSS fun op w a b => sA (doS op w a b)))) :: (21, (sm [] (hL4 fun a b c d => sA (mk4 a b c d)))) :: L_lmade)) Tryd.f7.ntmps 20 LL (codeOf Tryd.f7) := (lok_regP (noL_ok2 _ _ _ _ _ _) (by kernel_rfl) 3 [[], [], []] fun st ex st' h => by
    unfold rg1.orc at h
    split at h
    · injection h with h
      injection h with h1 h2
      subst h1; subst h2
      exact ⟨rfl, 2, rfl, rg1.reg _ _ _ _ _ _ _ _ _ _ _ _ _⟩
    · cases h)
theorem evA (a b c d k : BitVec 64) (w : Bool) : (evalFnL Tryd.prog (lk ((20, (sm [] (hSU fun k n => bA (Sc.has k n)))) :: (17, (sm [] (g0 (sA all)))) :: (13, (sm [] (gU fun n => sA (Sc.const n)))) :: (12, (sm [] (hIBSS fun op w a b => sA (doS op w a b)))) :: (21, (sm [] (hL4 fun a b c d => sA (mk4 a b c d)))) :: L_lmade)) 20 LL Tryd.f7 (codeOf Tryd.f7) [.p (.many [.w .u64 a, .w .u64 b, .w .u64 c, .w .u64 d]), uA k, bA w] []).run = bif BitVec.ule (doS 5 w (mk4 a b c d) (Sc.const k)).U k then bif (doS 5 true all (Sc.const k)).u == BitVec.ofInt 64 0 then bif (doS 5 true all (Sc.const k)).U == k then bif Sc.has (doS 5 true all (Sc.const k)) k then some (bA (Sc.has (doS 5 true all (Sc.const k)) (BitVec.ofInt 64 0)), []) else some (bA false, []) else some (bA false, []) else some (bA false, []) else some (bA false, []) := by kernel_rfl
theorem ev (a b c d k : BitVec 64) (w : Bool) : (evalFnL Tryd.prog (lk ((20, (sm [] (hSU fun k n => bA (Sc.has k n)))) :: (17, (sm [] (g0 (sA all)))) :: (13, (sm [] (gU fun n => sA (Sc.const n)))) :: (12, (sm [] (hIBSS fun op w a b => sA (doS op w a b)))) :: (21, (sm [] (hL4 fun a b c d => sA (mk4 a b c d)))) :: L_lmade)) 20 LL Tryd.f7 (codeOf Tryd.f7) [.p (.many [.w .u64 a, .w .u64 b, .w .u64 c, .w .u64 d]), uA k, bA w] []).run = some (bA true, []) := by
  refine (evA a b c d k w).trans ?_
  obtain ⟨ga, ha⟩ := mk4_good a b c d
  have hx := ha a (.inl rfl)
  have h1 := mask_le (k := k) ga hx w
  have h2 := mask_le (a := all) (x := k) (k := k) all_good (all_has k) true
  have h3 := do_has (op := 5) (w := true) all_good (const_good k) (all_has k) (const_has.2 (rfl : k = k)) rfl
  have h4 := do_has (op := 5) (w := true) all_good (const_good k) (all_has zW) (const_has.2 (rfl : k = k)) rfl
  have e3 : Sc.alu 5 true k k = k := by
    rw [alu_wide rfl]
    show k &&& k = k
    exact BitVec.and_self
  have e4 : Sc.alu 5 true zW k = zW := by
    rw [alu_wide rfl]
    show zW &&& k = zW
    exact BitVec.zero_and
  rw [e3] at h3
  rw [e4] at h4
  have z0 : (zW : BitVec 64).toNat = 0 := by decide
  have u0 : (doS 5 true all (Sc.const k)).u = zW := BitVec.eq_of_toNat_eq (by have := h4.2.u; omega)
  have uk : (doS 5 true all (Sc.const k)).U = k := BitVec.eq_of_toNat_eq (by have := h3.2.U; omega)
  rw [ule_iff.2 h1, u0, uk, Sc.has_iff.2 h3.2]
  simp only [cond_true, beq_self_eq_true]
  rw [show Sc.has (doS 5 true all (Sc.const k)) (BitVec.ofInt 64 0) = true from Sc.has_iff.2 h4.2]

theorem lifted (os : Os) (started : os.Started) : ∀ {H : Type} (enc : TypeId × Value → H), ReturnsInHanded {} Tryd.checked os 7 .any (fun w args => (Rows.scalarMaskedSpec.pre enc Tryd.prog Tryd.f7 [] false w args ∧ laidMetH Tryd.prog [("math/bits.deBruijn64tab", Rows.laid_math_bits_deBruijn64tab)] w) ∧ sizedMet enc Tryd.prog Tryd.f7 (OpenSpec.ofChange Rows.scalarMaskedSpec) false w args)
    (Rows.scalarMaskedSpec.post enc Tryd.prog Tryd.f7 false true false false) := by
  intro H enc
  refine law_lifted_laid (K := Kn) (by kernel_rfl) (by kernel_rfl) started (by kernel_rfl) Tryd.func7 rfl ?_ rfl (by kernel_rfl) ?_ (fun W h => tab_of_laid h)
    (ChangeSpec.witness_at (enc := enc) (C := Tryd.checked) (os := os) (X := fun w _ => laidMetH Tryd.prog [("math/bits.deBruijn64tab", Rows.laid_math_bits_deBruijn64tab)] w) false (laidWorld os) #[.agg #[.int .u64 0, .int .u64 0, .int .u64 0, .int .u64 0], .int .u64 0, .bool false] 8 rfl (by kernel_rfl) (by kernel_rfl) (by kernel_rfl) (by kernel_rfl) (by kernel_rfl) (laidWorld_met os _)) ?_
  · exact of_decide_eq_true (by kernel_rfl)
  · intro ds hds
    match ds, hds with
    | [d0, d1, d2], _ => rfl
  · refine law_flatL (lk_cons ok_shas (lk_cons ok_sunknown (lk_cons ok_sconst (lk_cons ok_sdo (lk_cons ok_lmade tok_lmade))))) Tryd.checked.mixed Tryd.func7 (by rfl) 20 4 lok (sh := [.many [.i .u64, .i .u64, .i .u64, .i .u64], .one (.i .u64), .one .b]) (by kernel_rfl) fun l hl => ?_
    obtain ⟨cs0, l0, rfl, ck0, hz0⟩ := FA_many hl
    obtain ⟨a, q0a, rfl, ck0a⟩ := CK_u rfl ck0
    obtain ⟨b, q0b, rfl, ck0b⟩ := CK_u rfl ck0a
    obtain ⟨c, q0c, rfl, ck0c⟩ := CK_u rfl ck0b
    obtain ⟨d, q0d, rfl, ck0d⟩ := CK_u rfl ck0c
    obtain rfl := CK_nil ck0d
    obtain ⟨cc1, l1, rfl, ck1, hz1⟩ := FA_one hz0
    obtain ⟨k, rfl⟩ := CK1_u rfl ck1
    obtain ⟨cc2, l2, rfl, ck2, hz2⟩ := FA_one hz1
    obtain ⟨w, rfl⟩ := CK1_b ck2
    cases FA_nil hz2
    exact ev a b c d k w

theorem over : Rows.scalarMaskedRow.holds Tryd.pinned (OpenSpec.ofChange Rows.scalarMaskedSpec) :=
  OpenClaim.holds_of_wide 7 Tryd.f7 rfl rfl rfl rfl rfl rfl rfl ⟨rfl, rfl, rfl, rfl, rfl⟩ rfl rfl rfl rfl rfl (by kernel_rfl) Tryd.func7 (by kernel_rfl)
    (of_decide_eq_true (by kernel_rfl)) (by unfold Func.isWrapper; first | (rw [if_pos (by decide +kernel)]; kernel_rfl) | (rw [if_neg (by decide +kernel)]; exact ⟨rfl, rfl⟩))
    (fun os started H enc _ => lifted os started enc)
theorem holds : Rows.ScalarMaskedCardSaid :=
  Claim7.holds_tied_plain_at .later [] [.data] true (true, "d3be37834a149cbf1812c319928bc56efe8423ada25c4b3c039826ee47bc29e4") false
    over (fun _ h => by cases h) (by kernel_rfl) (fun _ h => by cases h) scalarMasked_row_tie rfl ⟨rfl, rfl⟩ (by kernel_rfl) rfl
    (fun f fn hf hfn => by
      obtain rfl : f = 7 := Option.some.inj ((show Tryd.prog.funcNamed "barbican/barbicanlaw7.ScalarMasked" = some 7 by kernel_rfl).symm.trans hf) |>.symm
      obtain rfl : fn = Tryd.f7 := (Option.some.inj (Tryd.func7.symm.trans hfn)).symm
      exact ⟨by kernel_rfl, fun j t ht => by
        have hall : ∀ t ∈ Tryd.f7.params.toList, Tryd.prog.wantsStandIn t = false := of_decide_eq_true (by kernel_rfl)
        exact hall t (Array.mem_toList_iff.2 (Array.mem_of_getElem? ht))⟩)
    (by kernel_rfl)

end
end Go.Proofs.YtlllbgcfhfgaeaaDoor.lScalarMasked
