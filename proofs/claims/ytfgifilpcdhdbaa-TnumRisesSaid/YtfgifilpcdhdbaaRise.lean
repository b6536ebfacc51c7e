/-
  TnumRises: the walk, the law, the statement.
-/
import Derived.Test.YtfgifilpcdhdbaaTnK
import Derived.Test.YtfgifilpcdhdbaaTnQ
namespace Go.Proofs.Ytfgifilpcdhdbaa.rise
open Go Go.Sy Go.Tn Go.Proofs.Ytfgifilpcdhdbaa

abbrev TT : Option (AV × Hp) := some (bA true, [])
abbrev FF : Option (AV × Hp) := some (bA false, [])

theorem ev (A B : Tn) (x y : BitVec 64) (n : Int) : (evalFn Try.prog (lk L_known) 20 Try.f6 (Try.f6.body.getD .skip) [tA A, tA B, .p (.many [.w .u64 x, .w .u64 y]), iA n] []).run = some (bA true, []) := by
  have e : (evalFn Try.prog (lk L_known) 20 Try.f6 (Try.f6.body.getD .skip) [tA A, tA B, .p (.many [.w .u64 x, .w .u64 y]), iA n] []).run =
      (bif !!ok A then (bif !ok B then TT else
        (bif inn A (wid A x) then (bif inn B (wid B y) then (bif inn (add A B) (add (wid A x) (wid B y)) then (bif inn (sub A B) (sub (wid A x) (wid B y)) then (bif inn (and A B) (and (wid A x) (wid B y)) then
        (bif inn (or A B) (or (wid A x) (wid B y)) then (bif inn (xor A B) (xor (wid A x) (wid B y)) then (bif inn (lsh A n) (lsh (wid A x) n) then (bif inn (rsh A n) (rsh (wid A x) n) then
        (bif inn (arsh A n true) (arsh (wid A x) n true) then some (bA (inn (join A B) (join (wid A x) (wid B y))), []) else FF) else FF) else FF) else FF) else FF) else FF) else FF) else FF) else FF) else FF)) else TT) := by kernel_rfl
  rw [e]
  cases ha : ok A with
  | false => rfl
  | true =>
    cases hb : ok B with
    | false => rfl
    | true =>
      have hc := wid_ok ha x
      have hd := wid_ok hb y
      have h1 := wid_in ha x
      have h2 := wid_in hb y
      rw [h1, h2, add_op.rise ha hb hc hd h1 h2, sub_op.rise ha hb hc hd h1 h2, and_op.rise ha hb hc hd h1 h2, or_op.rise ha hb hc hd h1 h2, xor_op.rise ha hb hc hd h1 h2, (lsh_op n).rise ha hc h1, (rsh_op n).rise ha hc h1, (arsh_op64 n).rise ha hc h1, join_rise ha hb hc hd h1 h2]
      rfl

theorem lifted (os : Os) (started : os.Started) : ∀ {H : Type} (enc : TypeId × Value → H), ReturnsInHanded {} Try.checked os 6 .any (Rows.tnumRisesSpec.pre6 enc Try.prog Try.f6 [] false) (Rows.tnumRisesSpec.post enc Try.prog Try.f6 false true false false) := by
  intro H enc
  refine law_lifted (by kernel_rfl) (by kernel_rfl) started (by kernel_rfl) Try.func6 rfl ?_ rfl (by kernel_rfl) ?_
    (ChangeSpec.witness6 (enc := enc) (C := Try.checked) false ⟨#[], #[.agg #[.int .u64 0, .int .u64 0], .agg #[.int .u64 0, .int .u64 0], .agg #[.int .u64 0, .int .u64 0], .int .i64 0], []⟩ 8 (by kernel_rfl) (by kernel_rfl) (by kernel_rfl) (by kernel_rfl)) ?_
  · exact of_decide_eq_true (by kernel_rfl)
  · intro ds hds
    match ds, hds with
    | [d1, d2, d3, d4], _ => rfl
  · refine law_flat tok_known Try.checked.mixed Try.func6 (by rfl) 20 4 (sh := [.many [.i .u64, .i .u64], .many [.i .u64, .i .u64], .many [.i .u64, .i .u64], .one (.i .i64)]) (by kernel_rfl) fun l hl => ?_
    obtain ⟨A, l1, rfl, h1⟩ := FA_T hl
    obtain ⟨B, l2, rfl, h2⟩ := FA_T h1
    obtain ⟨x, y, l3, rfl, h3⟩ := FA_UU h2
    obtain ⟨n, l4, rfl, h4⟩ := FA_I h3
    cases FA_nil h4
    exact ev A B x y n

theorem over : Rows.tnumRisesRow.holds Try.pinned (OpenSpec.ofChange Rows.tnumRisesSpec) :=
  OpenClaim.holds_of_wide 6 Try.f6 rfl rfl rfl rfl rfl rfl rfl ⟨rfl, rfl, rfl, rfl, rfl⟩ rfl rfl rfl rfl rfl (by kernel_rfl) Try.func6 (by kernel_rfl)
    (of_decide_eq_true (by kernel_rfl)) (by unfold Func.isWrapper; first | (rw [if_pos (by decide +kernel)]; kernel_rfl) | (rw [if_neg (by decide +kernel)]; exact ⟨rfl, rfl⟩))
    (fun os started H enc _ => lifted os started enc)
theorem holds : Rows.TnumRisesSaid := over
end Go.Proofs.Ytfgifilpcdhdbaa.rise
