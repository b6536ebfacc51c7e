/-
  TnumHolds: the walk, the law, the statement.
-/
import Derived.Test.YtfgifilpcdhdbaaDoorMulLaw
import Derived.Test.YtfgifilpcdhdbaaDoorTnH
import Derived.Test.YtfgifilpcdhdbaaDoorLaid
import Derived.Test.YtfgifilpcdhdbaaDoorCards
namespace Go.Proofs.YtfgifilpcdhdbaaDoor.hhold
open Go Go.Sy Go.Tn Go.Proofs.YtfgifilpcdhdbaaDoor

abbrev TT : Option (AV × Hp) := some (bA true, [])
abbrev FF : Option (AV × Hp) := some (bA false, [])
@[reducible] def mnU (x y : BitVec 64) : BitVec 64 := bif BitVec.ult y x then y else x
@[reducible] def mxU (x y : BitVec 64) : BitVec 64 := bif BitVec.ult x y then y else x
@[reducible] def last (A B : Tn) (x y : BitVec 64) : Option (AV × Hp) :=
  bif !(x != y) then (bif meetOk A B then some (bA (has (meet A B) x), []) else FF) else TT
theorem ult_self (x : BitVec 64) : BitVec.ult x x = false := by
  simp only [BitVec.ult, decide_eq_false_iff_not]; omega
theorem range_min (x y : BitVec 64) : has (range (mnU x y) (mxU x y)) x = true := by
  unfold mnU mxU
  cases h1 : BitVec.ult y x with
  | true =>
    have h2 : BitVec.ult x y = false := by
      simp only [BitVec.ult, decide_eq_true_eq, decide_eq_false_iff_not] at h1 ⊢; omega
    rw [h2]
    show has (range y x) x = true
    exact range_end (.inr rfl) h2
  | false =>
    cases h2 : BitVec.ult x y with
    | true =>
      show has (range x y) x = true
      exact range_end (.inl rfl) h1
    | false =>
      show has (range x x) x = true
      exact range_end (.inl rfl) (ult_self x)

theorem ev (A B : Tn) (x y : BitVec 64) (n : Int) : (evalFn Tryd.prog (lk L_lnoughts) 20 Tryd.f4 (codeOf Tryd.f4) [tA A, tA B, uA x, uA y, iA n] []).run = TT := by
  have e : (evalFn Tryd.prog (lk L_lnoughts) 20 Tryd.f4 (codeOf Tryd.f4) [tA A, tA B, uA x, uA y, iA n] []).run =
    (bif !!has A x then (bif !has B y then TT else
     (bif has (add A B) (x + y) then (bif has (sub A B) (x - y) then (bif has (and A B) (x &&& y) then (bif has (or A B) (x ||| y) then (bif has (xor A B) (x ^^^ y) then (bif has (Tn.mul A B) (x * y) then
     (bif decide (times n 64 < 0) then none else
     (bif has (lsh A n) (x <<< (times n 64).toNat) then (bif decide (times n 64 < 0) then none else
     (bif has (rsh A n) (x >>> (times n 64).toNat) then (bif decide (times n 64 < 0) then none else
     (bif has (arsh A n true) (sar64 x (times n 64).toNat) then (bif has (low A) (x % BitVec.ofInt 64 4294967296) then
     (bif has (join A B) x then (bif has (join A B) y then (bif has (range (mnU x y) (mxU x y)) x then last A B x y else FF) else FF) else FF) else FF) else FF)) else FF)) else FF)) else FF) else FF) else FF) else FF) else FF) else FF)) else TT) := by kernel_rfl
  rw [e]
  cases h1 : has A x with
  | false => rfl
  | true =>
    cases h2 : has B y with
    | false => rfl
    | true =>
      have ha := has_ok h1
      have hb := has_ok h2
      have hx := (has_iff ha).1 h1
      have hy := (has_iff hb).1 h2
      have k1 := (has_iff (add_op.good A B ha hb)).2 (add_op.sound A B ha hb x y hx hy)
      have k2 := (has_iff (sub_op.good A B ha hb)).2 (sub_op.sound A B ha hb x y hx hy)
      have k3 := (has_iff (and_op.good A B ha hb)).2 (and_op.sound A B ha hb x y hx hy)
      have k4 := (has_iff (or_op.good A B ha hb)).2 (or_op.sound A B ha hb x y hx hy)
      have k5 := (has_iff (xor_op.good A B ha hb)).2 (xor_op.sound A B ha hb x y hx hy)
      have k6 : has (Tn.mul A B) (x * y) = true := by
        rw [mul_eq ha hb]
        exact (has_iff (mul'_ok ha hb)).2 (mul'_mem ha hb hx hy)
      have k7 := (has_iff ((lsh_op n).good A ha)).2 ((lsh_op n).sound A ha x hx)
      have k8 := (has_iff ((rsh_op n).good A ha)).2 ((rsh_op n).sound A ha x hx)
      have k9 := (has_iff ((arsh_op64 n).good A ha)).2 ((arsh_op64 n).sound A ha x hx)
      have k10 : has (low A) (x % BitVec.ofInt 64 4294967296) = true := by
        rw [mod_lo]
        exact (has_iff (low_op.good A ha)).2 (low_op.sound A ha x hx)
      have k11 := has_join ha hb hx
      have k12 := has_join hb ha hy
      rw [join_comm] at k12
      rw [k1, k2, k3, k4, k5, k6, k7, k8, k9, k10, k11, k12, range_min, times_neg (n := n) (m := 64) (by decide) (by decide)]
      show last A B x y = TT
      unfold last
      cases hxy : (x != y) with
      | true => rfl
      | false =>
        have : x = y := by simpa using hxy
        subst this
        obtain ⟨m1, m2⟩ := has_meet ha hb hx hy
        rw [m1, m2]; rfl

theorem lifted (os : Os) (started : os.Started) : ∀ {H : Type} (enc : TypeId × Value → H), ReturnsInHanded {} Tryd.checked os 4 .any (fun w args => (Rows.tnumHoldsSpec.pre enc Tryd.prog Tryd.f4 [] false w args ∧ laidMetH Tryd.prog [("math/bits.deBruijn64tab", Rows.laid_math_bits_deBruijn64tab)] w) ∧ sizedMet enc Tryd.prog Tryd.f4 (OpenSpec.ofChange Rows.tnumHoldsSpec) false w args)
    (Rows.tnumHoldsSpec.post enc Tryd.prog Tryd.f4 false true false false) := by
  intro H enc
  refine law_lifted_laid (K := Kn) (by kernel_rfl) (by kernel_rfl) started (by kernel_rfl) Tryd.func4 rfl ?_ rfl (by kernel_rfl) ?_ (fun W h => tab_of_laid h)
    (ChangeSpec.witness_at (enc := enc) (C := Tryd.checked) (os := os) (X := fun w _ => laidMetH Tryd.prog [("math/bits.deBruijn64tab", Rows.laid_math_bits_deBruijn64tab)] w) false (laidWorld os) #[.agg #[.int .u64 0, .int .u64 0], .agg #[.int .u64 0, .int .u64 0], .int .u64 0, .int .u64 0, .int .i64 0] 8 rfl (by kernel_rfl) (by kernel_rfl) (by kernel_rfl) (by kernel_rfl) (by kernel_rfl) (laidWorld_met os _)) ?_
  · exact of_decide_eq_true (by kernel_rfl)
  · intro ds hds
    match ds, hds with
    | [d1, d2, d3, d4, d5], _ => rfl
  · refine law_flat tok_lnoughts Tryd.checked.mixed Tryd.func4 (by rfl) 20 4 (sh := [.many [.i .u64, .i .u64], .many [.i .u64, .i .u64], .one (.i .u64), .one (.i .u64), .one (.i .i64)]) (by kernel_rfl) fun l hl => ?_
    obtain ⟨A, l1, rfl, h1⟩ := FA_T hl
    obtain ⟨B, l2, rfl, h2⟩ := FA_T h1
    obtain ⟨x, l3, rfl, h3⟩ := FA_U h2
    obtain ⟨y, l4, rfl, h4⟩ := FA_U h3
    obtain ⟨n, l5, rfl, h5⟩ := FA_I h4
    cases FA_nil h5
    exact ev A B x y n

theorem over : Rows.tnumHoldsRow.holds Tryd.pinned (OpenSpec.ofChange Rows.tnumHoldsSpec) :=
  OpenClaim.holds_of_wide 4 Tryd.f4 rfl rfl rfl rfl rfl rfl rfl ⟨rfl, rfl, rfl, rfl, rfl⟩ rfl rfl rfl rfl rfl (by kernel_rfl) Tryd.func4 (by kernel_rfl)
    (of_decide_eq_true (by kernel_rfl)) (by unfold Func.isWrapper; first | (rw [if_pos (by decide +kernel)]; kernel_rfl) | (rw [if_neg (by decide +kernel)]; exact ⟨rfl, rfl⟩))
    (fun os started H enc _ => lifted os started enc)
theorem holds : Rows.TnumHoldsCardSaid :=
  Claim7.holds_tied_plain_at .later [] [.data] true (true, "743c57864905ffe9d520c8cbfb08c262351c0b32f7b9319443bef8afd64fa4b2") false
    over (fun _ h => by cases h) (by kernel_rfl) (fun _ h => by cases h) tnumHolds_row_tie rfl ⟨rfl, rfl⟩ (by kernel_rfl) rfl
    (fun f fn hf hfn => by
      obtain rfl : f = 4 := Option.some.inj ((show Tryd.prog.funcNamed "barbican/barbicanlaw6.TnumHolds" = some 4 by kernel_rfl).symm.trans hf) |>.symm
      obtain rfl : fn = Tryd.f4 := (Option.some.inj (Tryd.func4.symm.trans hfn)).symm
      exact ⟨by kernel_rfl, fun j t ht => by
        have hall : ∀ t ∈ Tryd.f4.params.toList, Tryd.prog.wantsStandIn t = false := of_decide_eq_true (by kernel_rfl)
        exact hall t (Array.mem_toList_iff.2 (Array.mem_of_getElem? ht))⟩)
    (by kernel_rfl)
end Go.Proofs.YtfgifilpcdhdbaaDoor.hhold
