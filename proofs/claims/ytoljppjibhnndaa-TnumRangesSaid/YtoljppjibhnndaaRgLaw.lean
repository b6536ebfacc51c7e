/-
  The law of ranges.
-/
import Derived.Test.YtoljppjibhnndaaRgL
namespace Go.Proofs.Ytoljppjibhnndaa.rg
open Go Go.Sy Go.Sz Go.Tn
set_option linter.unusedVariables false
set_option linter.unusedSimpArgs false
set_option linter.constructorNameAsVariable false
set_option maxRecDepth 100000

theorem eqT_self (t : Tn) : eqT t t = true := by simp [eqT]

theorem eval (a : BitVec 64) (n : BitVec 8) : (evalFnL Try.prog (lk L_tight) 20 LT3 Try.f3 cL [] [uA a, .p (.one (.w .u8 n))] []).run =
    bif BitVec.ult (a + n.setWidth 64) a then some (AV.b (eqT (range a (a + n.setWidth 64)) unknown), [])
    else bif decide (a.toNat ≤ (a + n.setWidth 64).toNat) && decide ((([] : U64s).length + (a + n.setWidth 64 - a).toNat + 1) * 8 ≤ 140737488355328) then
      (bif decide (0 < ([] ++ upTo a (a + n.setWidth 64 - a).toNat).length) && decide (([] ++ upTo a (a + n.setWidth 64 - a).toNat).length < 4611686018427387904) then
        some (AV.b (eqT (range a (a + n.setWidth 64)) (tightOf ([] ++ upTo a (a + n.setWidth 64 - a).toNat))), []) else none) else none := by kernel_rfl

theorem ev (a : BitVec 64) (n : BitVec 8) : (evalFnL Try.prog (lk L_tight) 20 LT3 Try.f3 cL [] [uA a, .p (.one (.w .u8 n))] []).run = some (AV.b true, []) := by
  rw [eval]
  cases h : BitVec.ult (a + n.setWidth 64) a with
  | true =>
    have e : range a (a + n.setWidth 64) = unknown := by unfold range; rw [h]; rfl
    rw [e, eqT_self]; rfl
  | false =>
    have hk : (a + n.setWidth 64 - a).toNat ≤ 255 := by
      have e : a + n.setWidth 64 - a = n.setWidth 64 := by rw [BitVec.add_comm, BitVec.add_sub_cancel]
      rw [e]
      have := n.isLt
      rw [BitVec.toNat_setWidth, Nat.mod_eq_of_lt (Nat.lt_of_lt_of_le this (by decide))]
      exact Nat.le_of_lt_succ this
    have hab : a.toNat ≤ (a + n.setWidth 64).toNat := by simp [BitVec.ult] at h; simpa using h
    rw [range_tight _ _ h]
    generalize a + n.setWidth 64 - a = d at hk
    have h1 : decide (a.toNat ≤ (a + n.setWidth 64).toNat) = true := decide_eq_true hab
    have h2 : decide ((([] : U64s).length + d.toNat + 1) * 8 ≤ 140737488355328) = true := decide_eq_true (by simp only [List.length_nil]; omega)
    have h3 : decide (0 < (([] : U64s) ++ upTo a d.toNat).length) = true := decide_eq_true (by rw [List.nil_append, upTo_len]; omega)
    have h4 : decide ((([] : U64s) ++ upTo a d.toNat).length < 4611686018427387904) = true := decide_eq_true (by rw [List.nil_append, upTo_len]; omega)
    rw [h1, h2, h3, h4, List.nil_append, eqT_self]
    rfl

theorem lifted (os : Os) (started : os.Started) : ∀ {H : Type} (enc : TypeId × Value → H), ReturnsInHanded {} Try.checked os 3 .any (Rows.tnumRangesSpec.pre6 enc Try.prog Try.f3 [] false) (Rows.tnumRangesSpec.post enc Try.prog Try.f3 false true false false) := by
  intro H enc
  refine law_lifted (by kernel_rfl) (by kernel_rfl) started (by kernel_rfl) Try.func3 rfl ?_ rfl (by kernel_rfl) ?_
    (ChangeSpec.witness6 (enc := enc) (C := Try.checked) false ⟨#[], #[.int .u64 0, .int .u8 0], []⟩ 8 (by kernel_rfl) (by kernel_rfl) (by kernel_rfl) (by kernel_rfl)) ?_
  · exact of_decide_eq_true (by kernel_rfl)
  · intro ds hds
    match ds, hds with
    | [d1, d2], _ => rfl
  · intro W base args ds before hval htrod
    refine law_data tok_tight Try.checked.mixed Try.func3 (by rfl) 20 4 (rc := []) (sh := [.one (.w .u64), .one (.w .u8)]) (by kernel_rfl) ?_ W trivial base args ds before hval htrod
    rintro ⟨a, n, _⟩ _
    exact ⟨LT3, lokL, ev a n⟩

theorem over : Rows.tnumRangesRow.holds Try.pinned (OpenSpec.ofChange Rows.tnumRangesSpec) :=
  OpenClaim.holds_of_wide 3 Try.f3 rfl rfl rfl rfl rfl rfl rfl ⟨rfl, rfl, rfl, rfl, rfl⟩ rfl rfl rfl rfl rfl (by kernel_rfl) Try.func3 (by kernel_rfl)
    (of_decide_eq_true (by kernel_rfl)) (by unfold Func.isWrapper; first | (rw [if_pos (by decide +kernel)]; kernel_rfl) | (rw [if_neg (by decide +kernel)]; exact ⟨rfl, rfl⟩))
    (fun os started H enc _ => lifted os started enc)
theorem holds : Rows.TnumRangesSaid := over
end Go.Proofs.Ytoljppjibhnndaa.rg
