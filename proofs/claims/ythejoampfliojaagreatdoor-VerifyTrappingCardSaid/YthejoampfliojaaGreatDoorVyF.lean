/-
  The law VerifyTrapping: sixteen programs that surely trap are refused, whichever number is asked for.
-/
import Derived.Test.YthejoampfliojaaGreatDoorTie
import Derived.Test.YthejoampfliojaaGreatDoorCards
import Derived.SevenTiedAt
import Derived.Lib.TrailingZeros
import Derived.Test.YthejoampfliojaaGreatDoorVyJ
import Derived.Test.YthejoampfliojaaGreatDoorVc0
import Derived.Test.YthejoampfliojaaGreatDoorVc1
import Derived.Test.YthejoampfliojaaGreatDoorVc2
import Derived.Test.YthejoampfliojaaGreatDoorVc3
import Derived.Test.YthejoampfliojaaGreatDoorVc4
import Derived.Test.YthejoampfliojaaGreatDoorVc5
import Derived.Test.YthejoampfliojaaGreatDoorVc6
import Derived.Test.YthejoampfliojaaGreatDoorVc7
import Derived.Test.YthejoampfliojaaGreatDoorVc8
import Derived.Test.YthejoampfliojaaGreatDoorVc9
import Derived.Test.YthejoampfliojaaGreatDoorVc10
import Derived.Test.YthejoampfliojaaGreatDoorVc11
import Derived.Test.YthejoampfliojaaGreatDoorVc12
import Derived.Test.YthejoampfliojaaGreatDoorVc13
import Derived.Test.YthejoampfliojaaGreatDoorVc14
import Derived.Test.YthejoampfliojaaGreatDoorVc15
namespace Go.Proofs.YthejoampfliojaaGreatDoor.vt
open Go Go.Sy Go.Sz Go.Vy Go.Proofs.YthejoampfliojaaGreatDoor
set_option linter.unusedVariables false
set_option linter.unusedSimpArgs false
set_option maxRecDepth 100000

theorem ev_law (v : Int) : ∃ T, TOk Kn Tryz.prog T ∧ ∃ L, LOk Tryz.prog T Tryz.f3.ntmps 0 400 L c3 ∧ (evalFnL Tryz.prog T 400 L Tryz.f3 c3 [] [cell v] []).run = some (AV.b true, []) := by
  obtain ⟨c, hc⟩ := places v
  have h : ∃ l, TOk Kn Tryz.prog (lk ((4, Skn) :: l)) ∧ (evalFnL Tryz.prog (tb l) 400 noL Tryz.f3 c3 [] [cell v] []).run = some (AV.b true, []) := by
    match c, hc with
    | ⟨0, _⟩, hc => exact case_0 v hc
    | ⟨1, _⟩, hc => exact case_1 v hc
    | ⟨2, _⟩, hc => exact case_2 v hc
    | ⟨3, _⟩, hc => exact case_3 v hc
    | ⟨4, _⟩, hc => exact case_4 v hc
    | ⟨5, _⟩, hc => exact case_5 v hc
    | ⟨6, _⟩, hc => exact case_6 v hc
    | ⟨7, _⟩, hc => exact case_7 v hc
    | ⟨8, _⟩, hc => exact case_8 v hc
    | ⟨9, _⟩, hc => exact case_9 v hc
    | ⟨10, _⟩, hc => exact case_10 v hc
    | ⟨11, _⟩, hc => exact case_11 v hc
    | ⟨12, _⟩, hc => exact case_12 v hc
    | ⟨13, _⟩, hc => exact case_13 v hc
    | ⟨14, _⟩, hc => exact case_14 v hc
    | ⟨15, _⟩, hc => exact case_15 v hc
    | ⟨n + 16, hn⟩, _ => exact absurd hn (by omega)
  obtain ⟨l, h1, h2⟩ := h
  exact ⟨tb l, tok_cl h1, noL, noL_ok _ _ _ _ _ _, h2⟩
theorem body3 : Tryz.f3.body = some c3 := by kernel_rfl

noncomputable def laidWorld (os : Os) : World :=
  let w0 := World.holding Tryz.prog os ⟨#[], #[], []⟩
  { w0 with heap := w0.heap.modify 0 fun
      | .cells _ t frozen => .cells (Lib.deBruijn64tab.map fun n : Nat => Value.int .u8 (n : Int)).toArray t frozen
      | o => o }
theorem laidWorld_met (os : Os) (args : Array Value) : laidMetH Tryz.prog [("math/bits.deBruijn64tab", Rows.laid_math_bits_deBruijn64tab)] ((laidWorld os).forCall (fun _ _ => 0) ⟨#[], args, []⟩).memory :=
  laidMetH_of_parts (laidMet_of_run' 8 (by as_aux_lemma => kernel_rfl) (by as_aux_lemma => kernel_rfl)) (by as_aux_lemma => kernel_rfl)

theorem lifted (os : Os) (started : os.Started) : ∀ {H : Type} (enc : TypeId × Value → H), ReturnsInHanded {} Tryz.checked os 3 .any (fun w args => (Rows.verifyTrappingSpec.pre enc Tryz.prog Tryz.f3 [] false w args ∧ laidMetH Tryz.prog [("math/bits.deBruijn64tab", Rows.laid_math_bits_deBruijn64tab)] w) ∧ sizedMet enc Tryz.prog Tryz.f3 (OpenSpec.ofChange Rows.verifyTrappingSpec) false w args)
    (Rows.verifyTrappingSpec.post enc Tryz.prog Tryz.f3 false true false false) := by
  intro H enc
  refine law_lifted_laid (KO := fun _ => True) (by as_aux_lemma => kernel_rfl) (by as_aux_lemma => kernel_rfl) started (by as_aux_lemma => kernel_rfl) Tryz.func3 rfl ?_ rfl (by as_aux_lemma => kernel_rfl) ?_ (fun _ _ => trivial)
    (ChangeSpec.witness_at (enc := enc) (C := Tryz.checked) (os := os) (X := fun w _ => laidMetH Tryz.prog [("math/bits.deBruijn64tab", Rows.laid_math_bits_deBruijn64tab)] w) false (laidWorld os) #[.int .i64 0] 8 rfl (by as_aux_lemma => kernel_rfl) (by as_aux_lemma => kernel_rfl) (by as_aux_lemma => kernel_rfl) (by as_aux_lemma => kernel_rfl) (by as_aux_lemma => kernel_rfl) (laidWorld_met os _)) ?_
  · exact of_decide_eq_true (by as_aux_lemma => kernel_rfl)
  · intro ds hds
    match ds, hds with
    | [d0], _ => rfl
  · intro W _ base args ds before hval htrod
    refine law_data2 (K := Kn) Tryz.checked.mixed Tryz.func3 body3 400 4 (rc := []) (sh := [.one (.i .i64)]) (by as_aux_lemma => kernel_rfl) ?_ W trivial base args ds before hval htrod
    rintro ⟨v, ⟨⟩⟩ hok
    exact ev_law v
theorem over : Rows.verifyTrappingRow.holds Tryz.pinned (OpenSpec.ofChange Rows.verifyTrappingSpec) :=
  OpenClaim.holds_of_wide 3 Tryz.f3 rfl rfl rfl rfl rfl rfl rfl ⟨rfl, rfl, rfl, rfl, rfl⟩ rfl rfl rfl rfl rfl (by as_aux_lemma => kernel_rfl) Tryz.func3 jf
    (of_decide_eq_true (by as_aux_lemma => kernel_rfl)) (by unfold Func.isWrapper; first | (rw [if_pos (by decide +kernel)]; kernel_rfl) | (rw [if_neg (by decide +kernel)]; exact ⟨rfl, rfl⟩))
    (fun os started H enc _ => lifted os started enc)
theorem holds : Rows.VerifyTrappingCardSaid :=
  Claim7.holds_tied_plain_at .later [] [.data] true (true, "93865d5569459aceb432dd87e506d9a76101ec2a487ed80602ce34045f0490bb") true
    over (fun _ h => by cases h) (by as_aux_lemma => kernel_rfl) (fun _ h => by cases h) verifyTrapping_row_tie rfl ⟨rfl, rfl⟩ (by as_aux_lemma => kernel_rfl) rfl
    (fun f fn hf hfn => by
      obtain rfl : f = 3 := Option.some.inj ((show Tryz.prog.funcNamed "barbican/barbicanlaw17.VerifyTrapping" = some 3 by kernel_rfl).symm.trans hf) |>.symm
      obtain rfl : fn = Tryz.f3 := (Option.some.inj (Tryz.func3.symm.trans hfn)).symm
      exact ⟨by kernel_rfl, fun j t ht => by
        have hall : ∀ t ∈ Tryz.f3.params.toList, Tryz.prog.wantsStandIn t = false := of_decide_eq_true (by as_aux_lemma => kernel_rfl)
        exact hall t (Array.mem_toList_iff.2 (Array.mem_of_getElem? ht))⟩)
    (by as_aux_lemma => kernel_rfl)
end Go.Proofs.YthejoampfliojaaGreatDoor.vt
