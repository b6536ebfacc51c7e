/-
  The law GenSoup: whatever bytes: the slots that are made of them are well formed, at most 512, and the same again.
-/
import Derived.Test.YtpocmhfgnpgikaaGreatDoorTie
import Derived.Test.YtpocmhfgnpgikaaGreatDoorCards
import Derived.SevenTiedAt
import Derived.Lib.TrailingZeros
import Derived.Test.YtpocmhfgnpgikaaGreatDoorGsJ
import Derived.Test.YtpocmhfgnpgikaaGreatDoorGsB
namespace Go.Proofs.YtpocmhfgnpgikaaGreatDoor.gs
open Go Go.Sy Go.Sz Go.In Go.Proofs.YtpocmhfgnpgikaaGreatDoor
set_option linter.unusedVariables false
set_option linter.unusedSimpArgs false
set_option maxRecDepth 100000
noncomputable def laidWorld (os : Os) : World :=
  let w0 := World.holding Tryz.prog os ⟨#[], #[], []⟩
  { w0 with heap := w0.heap.modify 0 fun
      | .cells _ t frozen => .cells (Lib.deBruijn64tab.map fun n : Nat => Value.int .u8 (n : Int)).toArray t frozen
      | o => o }
theorem laidWorld_met (os : Os) (args : Array Value) : laidMetH Tryz.prog [("math/bits.deBruijn64tab", Rows.laid_math_bits_deBruijn64tab)] ((laidWorld os).forCall (fun _ _ => 0) ⟨#[], args, []⟩).memory :=
  laidMetH_of_parts (laidMet_of_run' 8 (by as_aux_lemma => kernel_rfl) (by as_aux_lemma => kernel_rfl)) (by as_aux_lemma => kernel_rfl)
theorem lifted (os : Os) (started : os.Started) : ∀ {H : Type} (enc : TypeId × Value → H), ReturnsInHanded {} Tryz.checked os 3 .any (fun w args => (Rows.genSoupSpec.pre enc Tryz.prog Tryz.f3 [] false w args ∧ laidMetH Tryz.prog [("math/bits.deBruijn64tab", Rows.laid_math_bits_deBruijn64tab)] w) ∧ sizedMet enc Tryz.prog Tryz.f3 (OpenSpec.ofChange Rows.genSoupSpec) false w args)
    (Rows.genSoupSpec.post enc Tryz.prog Tryz.f3 false true false false) := by
  intro H enc
  refine law_lifted_laid (KO := fun _ => True) (by as_aux_lemma => kernel_rfl) (by as_aux_lemma => kernel_rfl) started (by as_aux_lemma => kernel_rfl) Tryz.func3 rfl ?_ rfl (by as_aux_lemma => kernel_rfl) ?_ (fun _ _ => trivial)
    (ChangeSpec.witness_at (enc := enc) (C := Tryz.checked) (os := os) (X := fun w _ => laidMetH Tryz.prog [("math/bits.deBruijn64tab", Rows.laid_math_bits_deBruijn64tab)] w) false (laidWorld os) #[.slice none 0 0] 8 rfl (by as_aux_lemma => kernel_rfl) (by as_aux_lemma => kernel_rfl) (by as_aux_lemma => kernel_rfl) (by as_aux_lemma => kernel_rfl) (by as_aux_lemma => kernel_rfl) (laidWorld_met os _)) ?_
  · exact of_decide_eq_true (by as_aux_lemma => kernel_rfl)
  · intro ds hds
    match ds, hds with
    | [d0], _ => rfl
  · intro W _ base args ds before hval htrod
    refine law_data (K := Kn) tok_know Tryz.checked.mixed Tryz.func3 (by rfl) 20 4 (rc := []) (sh := [.one (.sl bytesT)]) (by as_aux_lemma => kernel_rfl) ?_ W trivial base args ds before hval htrod
    rintro ⟨s, ⟨⟩⟩ hok
    exact ⟨noL, (noL_ok _ _ _ _ _ _), (ev_law s).trans (true_law s)⟩
theorem over : Rows.genSoupRow.holds Tryz.pinned (OpenSpec.ofChange Rows.genSoupSpec) :=
  OpenClaim.holds_of_wide 3 Tryz.f3 rfl rfl rfl rfl rfl rfl rfl ⟨rfl, rfl, rfl, rfl, rfl⟩ rfl rfl rfl rfl rfl (by as_aux_lemma => kernel_rfl) Tryz.func3 jf
    (of_decide_eq_true (by as_aux_lemma => kernel_rfl)) (by unfold Func.isWrapper; first | (rw [if_pos (by decide +kernel)]; kernel_rfl) | (rw [if_neg (by decide +kernel)]; exact ⟨rfl, rfl⟩))
    (fun os started H enc _ => lifted os started enc)
theorem holds : Rows.GenSoupCardSaid :=
  Claim7.holds_tied_plain_at .later [] [.data] true (true, "1a8e5746987a596b630eef32a2967e70843861a5ab72cce870239fb6295cd8a0") true
    over (fun _ h => by cases h) (by as_aux_lemma => kernel_rfl) (fun _ h => by cases h) genSoup_row_tie rfl ⟨rfl, rfl⟩ (by as_aux_lemma => kernel_rfl) rfl
    (fun f fn hf hfn => by
      obtain rfl : f = 3 := Option.some.inj ((show Tryz.prog.funcNamed "barbican/barbicanlaw23.GenSoup" = some 3 by kernel_rfl).symm.trans hf) |>.symm
      obtain rfl : fn = Tryz.f3 := (Option.some.inj (Tryz.func3.symm.trans hfn)).symm
      exact ⟨by kernel_rfl, fun j t ht => by
        have hall : ∀ t ∈ Tryz.f3.params.toList, Tryz.prog.wantsStandIn t = false := of_decide_eq_true (by as_aux_lemma => kernel_rfl)
        exact hall t (Array.mem_toList_iff.2 (Array.mem_of_getElem? ht))⟩)
    (by as_aux_lemma => kernel_rfl)
end Go.Proofs.YtpocmhfgnpgikaaGreatDoor.gs
