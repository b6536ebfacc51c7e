/-
  ScalarMakes: of constants, ranges and all numbers: they have what they must, and are scalars; no condition but that the library's table math/bits.deBruijn64tab holds what its initialiser lays.
-/
import Derived.Test.YtlllbgcfhfgaeaaDoorScX
import Derived.Test.YtlllbgcfhfgaeaaDoorLaid
import Derived.Test.YtlllbgcfhfgaeaaDoorCards
namespace Go.Proofs.YtlllbgcfhfgaeaaDoor.lScalarMakes
open Go Go.Sy Go.Tn Go.Sc Go.Proofs.YtlllbgcfhfgaeaaDoor
noncomputable section

theorem evA (I : Sc → Bool) (HA : Sc → BitVec 64 → Bool) (BT : BitVec 64 → BitVec 64 → Sc) (KO : BitVec 64 → Sc) (ALL : Sc) (n l m x : BitVec 64) : (evalFn Tryd.prog (lk ((17, (sm [] (g0 (sA ALL)))) :: (13, (sm [] (gU fun n => sA (KO n)))) :: (18, (sm [] (gUU fun l m => sA (BT l m)))) :: (20, (sm [] (hSU fun k n => bA (HA k n)))) :: (19, (sm [] (hS fun k => bA (I k)))) :: L_lmade)) 20 Tryd.f4 (codeOf Tryd.f4) [uA n, uA l, uA m, uA x] []).run = bif !!I (KO n) then bif !!I ALL then bif !!I (BT l m) then bif !(HA (KO n) x != (x == n)) then bif !HA ALL x then some (bA false, []) else bif BitVec.ult m l then some (bA (eqS (BT l m) ALL), []) else bif BitVec.ule l x then some (bA (HA (BT l m) x == BitVec.ule x m), []) else some (bA (HA (BT l m) x == false), []) else some (bA false, []) else some (bA false, []) else some (bA false, []) else some (bA false, []) := by kernel_rfl
theorem ev (n l m x : BitVec 64) : (evalFn Tryd.prog (lk ((17, (sm [] (g0 (sA all)))) :: (13, (sm [] (gU fun n => sA (Sc.const n)))) :: (18, (sm [] (gUU fun l m => sA (between l m)))) :: (20, (sm [] (hSU fun k n => bA (Sc.has k n)))) :: (19, (sm [] (hS fun k => bA (is k)))) :: L_lmade)) 20 Tryd.f4 (codeOf Tryd.f4) [uA n, uA l, uA m, uA x] []).run = some (bA true, []) := by
  refine (evA is Sc.has between Sc.const all n l m x).trans ?_
  have hb := between_good l m
  have i1 : is (Sc.const n) = true := is_iff.2 (const_good n).st
  have i2 : is all = true := is_iff.2 all_good.st
  have i3 : is (between l m) = true := is_iff.2 hb.1.st
  have i4 : Sc.has all x = true := Sc.has_iff.2 (all_has x)
  have i5 : Sc.has (Sc.const n) x = (x == n) := has_const n x
  rw [i1, i2, i3, i4, i5]
  simp only [bne_self_eq_false, Bool.not_true, Bool.not_false, cond_true, cond_false]
  cases hu : BitVec.ult m l with
  | true =>
    have : between l m = all := by unfold between; rw [hu]; rfl
    rw [this]
    simp only [cond_true]
    rw [eqS_iff.2 rfl]
  | false =>
    simp only [cond_false]
    have hx := hb.2.1 (ult_not.1 hu) x
    cases h1 : BitVec.ule l x with
    | true =>
      simp only [cond_true]
      have : Sc.has (between l m) x = BitVec.ule x m := by
        rw [Bool.eq_iff_iff, Sc.has_iff, hx, ule_iff]
        exact ⟨fun h => h.2, fun h => ⟨ule_iff.1 h1, h⟩⟩
      rw [this]; simp
    | false =>
      simp only [cond_false]
      have : Sc.has (between l m) x = false := by
        cases hh : Sc.has (between l m) x with
        | false => rfl
        | true =>
          have := (hx.1 (Sc.has_iff.1 hh)).1
          have h2 : BitVec.ule l x = true := ule_iff.2 this
          rw [h1] at h2; cases h2
      rw [this]; rfl

theorem lifted (os : Os) (started : os.Started) : ∀ {H : Type} (enc : TypeId × Value → H), ReturnsInHanded {} Tryd.checked os 4 .any (fun w args => (Rows.scalarMakesSpec.pre enc Tryd.prog Tryd.f4 [] false w args ∧ laidMetH Tryd.prog [("math/bits.deBruijn64tab", Rows.laid_math_bits_deBruijn64tab)] w) ∧ sizedMet enc Tryd.prog Tryd.f4 (OpenSpec.ofChange Rows.scalarMakesSpec) false w args)
    (Rows.scalarMakesSpec.post enc Tryd.prog Tryd.f4 false true false false) := by
  intro H enc
  refine law_lifted_laid (K := Kn) (by kernel_rfl) (by kernel_rfl) started (by kernel_rfl) Tryd.func4 rfl ?_ rfl (by kernel_rfl) ?_ (fun W h => tab_of_laid h)
    (ChangeSpec.witness_at (enc := enc) (C := Tryd.checked) (os := os) (X := fun w _ => laidMetH Tryd.prog [("math/bits.deBruijn64tab", Rows.laid_math_bits_deBruijn64tab)] w) false (laidWorld os) #[.int .u64 0, .int .u64 0, .int .u64 0, .int .u64 0] 8 rfl (by kernel_rfl) (by kernel_rfl) (by kernel_rfl) (by kernel_rfl) (by kernel_rfl) (laidWorld_met os _)) ?_
  · exact of_decide_eq_true (by kernel_rfl)
  · intro ds hds
    match ds, hds with
    | [d0, d1, d2, d3], _ => rfl
  · refine law_flat (lk_cons ok_sunknown (lk_cons ok_sconst (lk_cons ok_sbetween (lk_cons ok_shas (lk_cons ok_sis tok_lmade))))) Tryd.checked.mixed Tryd.func4 (by rfl) 20 4  (sh := [.one (.i .u64), .one (.i .u64), .one (.i .u64), .one (.i .u64)]) (by kernel_rfl) fun l hl => ?_
    obtain ⟨cc0, l0, rfl, c0, h0⟩ := FA_one hl
    obtain ⟨n, rfl⟩ := CK1_u rfl c0
    obtain ⟨cc1, l1, rfl, c1, h1⟩ := FA_one h0
    obtain ⟨l, rfl⟩ := CK1_u rfl c1
    obtain ⟨cc2, l2, rfl, c2, h2⟩ := FA_one h1
    obtain ⟨m, rfl⟩ := CK1_u rfl c2
    obtain ⟨cc3, l3, rfl, c3, h3⟩ := FA_one h2
    obtain ⟨x, rfl⟩ := CK1_u rfl c3
    cases FA_nil h3
    exact ev n l m x

theorem over : Rows.scalarMakesRow.holds Tryd.pinned (OpenSpec.ofChange Rows.scalarMakesSpec) :=
  OpenClaim.holds_of_wide 4 Tryd.f4 rfl rfl rfl rfl rfl rfl rfl ⟨rfl, rfl, rfl, rfl, rfl⟩ rfl rfl rfl rfl rfl (by kernel_rfl) Tryd.func4 (by kernel_rfl)
    (of_decide_eq_true (by kernel_rfl)) (by unfold Func.isWrapper; first | (rw [if_pos (by decide +kernel)]; kernel_rfl) | (rw [if_neg (by decide +kernel)]; exact ⟨rfl, rfl⟩))
    (fun os started H enc _ => lifted os started enc)
theorem holds : Rows.ScalarMakesCardSaid :=
  Claim7.holds_tied_plain_at .later [] [.data] true (true, "d3be37834a149cbf1812c319928bc56efe8423ada25c4b3c039826ee47bc29e4") false
    over (fun _ h => by cases h) (by kernel_rfl) (fun _ h => by cases h) scalarMakes_row_tie rfl ⟨rfl, rfl⟩ (by kernel_rfl) rfl
    (fun f fn hf hfn => by
      obtain rfl : f = 4 := Option.some.inj ((show Tryd.prog.funcNamed "barbican/barbicanlaw7.ScalarMakes" = some 4 by kernel_rfl).symm.trans hf) |>.symm
      obtain rfl : fn = Tryd.f4 := (Option.some.inj (Tryd.func4.symm.trans hfn)).symm
      exact ⟨by kernel_rfl, fun j t ht => by
        have hall : ∀ t ∈ Tryd.f4.params.toList, Tryd.prog.wantsStandIn t = false := of_decide_eq_true (by kernel_rfl)
        exact hall t (Array.mem_toList_iff.2 (Array.mem_of_getElem? ht))⟩)
    (by kernel_rfl)

end
end Go.Proofs.YtlllbgcfhfgaeaaDoor.lScalarMakes
