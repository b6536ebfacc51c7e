/-
  TnumMul: the statement.
-/
import Derived.Test.YtfgifilpcdhdbaaDoorMulLaw
import Derived.Test.YtfgifilpcdhdbaaDoorLaid
import Derived.Test.YtfgifilpcdhdbaaDoorCards
namespace Go.Proofs.YtfgifilpcdhdbaaDoor.mhold
open Go Go.Sy Go.Tn Go.Proofs.YtfgifilpcdhdbaaDoor

theorem lifted (os : Os) (started : os.Started) : ∀ {H : Type} (enc : TypeId × Value → H), ReturnsInHanded {} Tryd.checked os 3 .any (fun w args => (Rows.tnumMulSpec.pre enc Tryd.prog Tryd.f3 [] false w args ∧ laidMetH Tryd.prog [("math/bits.deBruijn64tab", Rows.laid_math_bits_deBruijn64tab)] w) ∧ sizedMet enc Tryd.prog Tryd.f3 (OpenSpec.ofChange Rows.tnumMulSpec) false w args)
    (Rows.tnumMulSpec.post enc Tryd.prog Tryd.f3 false true false false) := by
  intro H enc
  refine law_lifted_laid (K := Kn) (by kernel_rfl) (by kernel_rfl) started (by kernel_rfl) Tryd.func3 rfl ?_ rfl (by kernel_rfl) ?_ (fun W h => tab_of_laid h)
    (ChangeSpec.witness_at (enc := enc) (C := Tryd.checked) (os := os) (X := fun w _ => laidMetH Tryd.prog [("math/bits.deBruijn64tab", Rows.laid_math_bits_deBruijn64tab)] w) false (laidWorld os) #[.agg #[.int .u64 0, .int .u64 0], .agg #[.int .u64 0, .int .u64 0]] 8 rfl (by kernel_rfl) (by kernel_rfl) (by kernel_rfl) (by kernel_rfl) (by kernel_rfl) (laidWorld_met os _)) ?_
  · exact of_decide_eq_true (by kernel_rfl)
  · intro ds hds
    match ds, hds with
    | [d1, d2], _ => rfl
  · refine law_flat tok_lnoughts Tryd.checked.mixed Tryd.func3 (by rfl) 20 4 (sh := [.many [.i .u64, .i .u64], .many [.i .u64, .i .u64]]) (by kernel_rfl) fun l hl => ?_
    obtain ⟨A, l1, rfl, h1⟩ := FA_T hl
    obtain ⟨B, l2, rfl, h2⟩ := FA_T h1
    cases FA_nil h2
    exact mlaw.ev A B

theorem over : Rows.tnumMulRow.holds Tryd.pinned (OpenSpec.ofChange Rows.tnumMulSpec) :=
  OpenClaim.holds_of_wide 3 Tryd.f3 rfl rfl rfl rfl rfl rfl rfl ⟨rfl, rfl, rfl, rfl, rfl⟩ rfl rfl rfl rfl rfl (by kernel_rfl) Tryd.func3 (by kernel_rfl)
    (of_decide_eq_true (by kernel_rfl)) (by unfold Func.isWrapper; first | (rw [if_pos (by decide +kernel)]; kernel_rfl) | (rw [if_neg (by decide +kernel)]; exact ⟨rfl, rfl⟩))
    (fun os started H enc _ => lifted os started enc)
theorem holds : Rows.TnumMulCardSaid :=
  Claim7.holds_tied_plain_at .later [] [.data] true (true, "743c57864905ffe9d520c8cbfb08c262351c0b32f7b9319443bef8afd64fa4b2") false
    over (fun _ h => by cases h) (by kernel_rfl) (fun _ h => by cases h) tnumMul_row_tie rfl ⟨rfl, rfl⟩ (by kernel_rfl) rfl
    (fun f fn hf hfn => by
      obtain rfl : f = 3 := Option.some.inj ((show Tryd.prog.funcNamed "barbican/barbicanlaw6.TnumMul" = some 3 by kernel_rfl).symm.trans hf) |>.symm
      obtain rfl : fn = Tryd.f3 := (Option.some.inj (Tryd.func3.symm.trans hfn)).symm
      exact ⟨by kernel_rfl, fun j t ht => by
        have hall : ∀ t ∈ Tryd.f3.params.toList, Tryd.prog.wantsStandIn t = false := of_decide_eq_true (by kernel_rfl)
        exact hall t (Array.mem_toList_iff.2 (Array.mem_of_getElem? ht))⟩)
    (by kernel_rfl)
end Go.Proofs.YtfgifilpcdhdbaaDoor.mhold
