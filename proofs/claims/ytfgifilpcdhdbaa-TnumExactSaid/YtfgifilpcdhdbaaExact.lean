/-
  TnumExact: the walk, the law, the statement.
-/
import Derived.Test.YtfgifilpcdhdbaaTnR
namespace Go.Proofs.Ytfgifilpcdhdbaa.exact
open Go Go.Sy Go.Tn Go.Proofs.Ytfgifilpcdhdbaa

abbrev TT : Option (AV × Hp) := some (bA true, [])
abbrev FF : Option (AV × Hp) := some (bA false, [])

theorem ev (A B : Tn) (n : Int) (l m : BitVec 64) (w : Bool) : (evalFn Try.prog (lk L_rleast) 20 Try.f7 (Try.f7.body.getD .skip) [tA A, tA B, iA n, uA l, uA m, bA w] []).run = some (bA true, []) := by
  have e : (evalFn Try.prog (lk L_rleast) 20 Try.f7 (Try.f7.body.getD .skip) [tA A, tA B, iA n, uA l, uA m, bA w] []).run =
      (bif eqT (meet A B) (meet A B) then (bif (meetOk A B) == (meetOk A B) then (bif (ok A) == (ok A) then (bif (has A l) == (has A l) then (bif (inn A B) == (inn A B) then (bif eqT (const l) ⟨l, BitVec.ofInt 64 0⟩ then (bif eqT (range l m) (range l m) then (bif eqT (join A B) (join A B) then (bif eqT (add A B) (add A B) then (bif eqT (sub A B) (sub A B) then (bif eqT (and A B) (and A B) then (bif eqT (or A B) (or A B) then (bif eqT (xor A B) (xor A B) then (bif eqT (lsh A n) (lsh A n) then (bif eqT (rsh A n) (rsh A n) then (bif eqT (arsh A n w) (arsh A n w) then (bif eqT (low A) (low A) then (bif (least A) == (least A) then some (bA ((most A) == (most A)), []) else FF) else FF) else FF) else FF) else FF) else FF) else FF) else FF) else FF) else FF) else FF) else FF) else FF) else FF) else FF) else FF) else FF) else FF) := by kernel_rfl
  rw [e]
  have ee : ∀ t : Tn, eqT t t = true := fun t => eqT_iff.2 rfl
  have ec : eqT (const l) ⟨l, BitVec.ofInt 64 0⟩ = true := ee (const l)
  have bb : ∀ x : Bool, (x == x) = true := by decide
  simp only [ee, ec, bb, beq_self_eq_true, cond_true]

theorem lifted (os : Os) (started : os.Started) : ∀ {H : Type} (enc : TypeId × Value → H), ReturnsInHanded {} Try.checked os 7 .any (Rows.tnumExactSpec.pre6 enc Try.prog Try.f7 [] false) (Rows.tnumExactSpec.post enc Try.prog Try.f7 false true false false) := by
  intro H enc
  refine law_lifted (by kernel_rfl) (by kernel_rfl) started (by kernel_rfl) Try.func7 rfl ?_ rfl (by kernel_rfl) ?_
    (ChangeSpec.witness6 (enc := enc) (C := Try.checked) false ⟨#[], #[.agg #[.int .u64 0, .int .u64 0], .agg #[.int .u64 0, .int .u64 0], .int .i64 0, .int .u64 0, .int .u64 0, .bool false], []⟩ 8 (by kernel_rfl) (by kernel_rfl) (by kernel_rfl) (by kernel_rfl)) ?_
  · exact of_decide_eq_true (by kernel_rfl)
  · intro ds hds
    match ds, hds with
    | [d0, d1, d2, d3, d4, d5], _ => rfl
  · refine law_flat tok_rleast Try.checked.mixed Try.func7 (by rfl) 20 4 (sh := [.many [.i .u64, .i .u64], .many [.i .u64, .i .u64], .one (.i .i64), .one (.i .u64), .one (.i .u64), .one .b]) (by kernel_rfl) fun l hl => ?_
    obtain ⟨A, l1, rfl, h1⟩ := FA_T hl
    obtain ⟨B, l2, rfl, h2⟩ := FA_T h1
    obtain ⟨n, l3, rfl, h3⟩ := FA_I h2
    obtain ⟨x, l4, rfl, h4⟩ := FA_U h3
    obtain ⟨y, l5, rfl, h5⟩ := FA_U h4
    obtain ⟨w, l6, rfl, h6⟩ := FA_B h5
    cases FA_nil h6
    exact ev A B n x y w

theorem over : Rows.tnumExactRow.holds Try.pinned (OpenSpec.ofChange Rows.tnumExactSpec) :=
  OpenClaim.holds_of_wide 7 Try.f7 rfl rfl rfl rfl rfl rfl rfl ⟨rfl, rfl, rfl, rfl, rfl⟩ rfl rfl rfl rfl rfl (by kernel_rfl) Try.func7 (by kernel_rfl)
    (of_decide_eq_true (by kernel_rfl)) (by unfold Func.isWrapper; first | (rw [if_pos (by decide +kernel)]; kernel_rfl) | (rw [if_neg (by decide +kernel)]; exact ⟨rfl, rfl⟩))
    (fun os started H enc _ => lifted os started enc)
theorem holds : Rows.TnumExactSaid := over
end Go.Proofs.Ytfgifilpcdhdbaa.exact
