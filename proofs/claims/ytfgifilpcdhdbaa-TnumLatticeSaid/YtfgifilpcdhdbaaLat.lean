/-
  TnumLattice: the walk, the law, the statement.
-/
import Derived.Test.YtfgifilpcdhdbaaTnK
import Derived.Test.YtfgifilpcdhdbaaTnP
namespace Go.Proofs.Ytfgifilpcdhdbaa.lat
open Go Go.Sy Go.Tn Go.Proofs.Ytfgifilpcdhdbaa

abbrev TT : Option (AV × Hp) := some (bA true, [])
abbrev FF : Option (AV × Hp) := some (bA false, [])

theorem ev (A B : Tn) : (evalFn Try.prog (lk L_known) 20 Try.f4 (Try.f4.body.getD .skip) [tA A, tA B] []).run = some (bA true, []) := by
  have e : (evalFn Try.prog (lk L_known) 20 Try.f4 (Try.f4.body.getD .skip) [tA A, tA B] []).run =
      (bif !!ok A then (bif !ok B then TT else (bif !(!((meet A B).v == (meet B A).v && ((meet A B).m == (meet B A).m && true))) then (bif !(!(meetOk A B == meetOk B A)) then (bif !(!((join A B).v == (join B A).v && ((join A B).m == (join B A).m && true))) then (bif !(!meetOk A A) then (bif !(!((meet A A).v == A.v && ((meet A A).m == A.m && true))) then (bif !((join A A).v == A.v && ((join A A).m == A.m && true)) then FF else (bif meetOk A B then (bif !!inn (meet A B) A then (bif !inn (meet A B) B then FF else (bif inn A (join A B) then (bif inn B (join A B) then (bif !!inn A B then (bif meetOk A B then (bif (meet A B).v == A.v && ((meet A B).m == A.m && true) then some (bA ((join A B).v == B.v && ((join A B).m == B.m && true)), []) else FF) else FF) else TT) else FF) else FF)) else FF) else (bif inn A (join A B) then (bif inn B (join A B) then (bif !!inn A B then (bif meetOk A B then (bif (meet A B).v == A.v && ((meet A B).m == A.m && true) then some (bA ((join A B).v == B.v && ((join A B).m == B.m && true)), []) else FF) else FF) else TT) else FF) else FF))) else FF) else FF) else FF) else FF) else FF)) else TT) := by kernel_rfl
  rw [e]
  cases ha : ok A with
  | false => rfl
  | true =>
    cases hb : ok B with
    | false => rfl
    | true =>
      have j1 := join_in ha hb
      have j2 := join_in hb ha
      rw [join_comm] at j2
      rw [meet_comm B A, meetOk_comm B A, join_comm B A, meet_self ha, meetOk_self, join_self ha, j1, j2]
      cases hi : inn A B with
      | true =>
        obtain ⟨m1, m2, m3⟩ := in_meet ha hb hi
        have k1 := meet_in ha hb m1
        have k2 := meet_in hb ha (by rw [meetOk_comm]; exact m1)
        rw [meet_comm] at k2
        rw [k1, k2, m1, m2, m3]
        simp
      | false =>
        cases m1 : meetOk A B with
        | true =>
          have k1 := meet_in ha hb m1
          have k2 := meet_in hb ha (by rw [meetOk_comm]; exact m1)
          rw [meet_comm] at k2
          rw [k1, k2]
          simp
        | false => simp

theorem lifted (os : Os) (started : os.Started) : ∀ {H : Type} (enc : TypeId × Value → H), ReturnsInHanded {} Try.checked os 4 .any (Rows.tnumLatticeSpec.pre6 enc Try.prog Try.f4 [] false) (Rows.tnumLatticeSpec.post enc Try.prog Try.f4 false true false false) := by
  intro H enc
  refine law_lifted (by kernel_rfl) (by kernel_rfl) started (by kernel_rfl) Try.func4 rfl ?_ rfl (by kernel_rfl) ?_
    (ChangeSpec.witness6 (enc := enc) (C := Try.checked) false ⟨#[], #[.agg #[.int .u64 0, .int .u64 0], .agg #[.int .u64 0, .int .u64 0]], []⟩ 8 (by kernel_rfl) (by kernel_rfl) (by kernel_rfl) (by kernel_rfl)) ?_
  · exact of_decide_eq_true (by kernel_rfl)
  · intro ds hds
    match ds, hds with
    | [d1, d2], _ => rfl
  · refine law_flat tok_known Try.checked.mixed Try.func4 (by rfl) 20 4 (sh := [.many [.i .u64, .i .u64], .many [.i .u64, .i .u64]]) (by kernel_rfl) fun l hl => ?_
    obtain ⟨A, l1, rfl, h1⟩ := FA_T hl
    obtain ⟨B, l2, rfl, h2⟩ := FA_T h1
    cases FA_nil h2
    exact ev A B

theorem over : Rows.tnumLatticeRow.holds Try.pinned (OpenSpec.ofChange Rows.tnumLatticeSpec) :=
  OpenClaim.holds_of_wide 4 Try.f4 rfl rfl rfl rfl rfl rfl rfl ⟨rfl, rfl, rfl, rfl, rfl⟩ rfl rfl rfl rfl rfl (by kernel_rfl) Try.func4 (by kernel_rfl)
    (of_decide_eq_true (by kernel_rfl)) (by unfold Func.isWrapper; first | (rw [if_pos (by decide +kernel)]; kernel_rfl) | (rw [if_neg (by decide +kernel)]; exact ⟨rfl, rfl⟩))
    (fun os started H enc _ => lifted os started enc)
theorem holds : Rows.TnumLatticeSaid := over
end Go.Proofs.Ytfgifilpcdhdbaa.lat
