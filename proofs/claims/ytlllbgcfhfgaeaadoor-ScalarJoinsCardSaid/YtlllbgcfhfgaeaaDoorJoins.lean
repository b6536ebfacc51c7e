/-
  ScalarJoins: joined in any order scalars have all of their numbers; one that is within another one adds nothing; no condition but that the table math/bits.deBruijn64tab holds what its initialiser lays.
-/
import Derived.Test.YtlllbgcfhfgaeaaDoorScZ
import Derived.Test.YtlllbgcfhfgaeaaDoorLaid
import Derived.Test.YtlllbgcfhfgaeaaDoorCards
namespace Go.Proofs.YtlllbgcfhfgaeaaDoor.lScalarJoins
open Go Go.Sy Go.Tn Go.Sc Go.Proofs.YtlllbgcfhfgaeaaDoor
set_option linter.unusedSimpArgs false
set_option linter.unusedVariables false
noncomputable section

namespace rg1
def path : List Nat := [0, 1, 1]
def K : List Nat := [3, 4, 6]
def K2 : List Nat := [6, 7, 8]
def orc : St → Option (Ex × St)
  | ⟨[(3, .p (.one (.p 0 0))), (4, .p (.one (.p 1 0))), (6, .p (.one (.v (.bool r))))], [[.w .u64 a, .w .u64 b, .w .u64 c, .w .u64 d], [.w .u64 e, .w .u64 f, .w .u64 g, .w .u64 h]]⟩ => some (.normal, ⟨[(6, .p (.one (.v (.bool r)))), (7, .p (.one (.p 2 0))), (8, .p (.one (.p 3 0)))], [[.w .u64 a, .w .u64 b, .w .u64 c, .w .u64 d], [.w .u64 e, .w .u64 f, .w .u64 g, .w .u64 h], (sC (mk4 a b c d)), (sC (mk4 e f g h))]⟩)
  | _ => none
theorem reg (a b c d e f g h : BitVec 64) (r : Bool) : (drawL Tryd.prog (lk ((23, (sm [] (hSS fun a b => bA (Sc.inn a b)))) :: (22, (sm [] (hSS fun a b => sA (Sc.join a b)))) :: (21, (sm [] (hL4 fun a b c d => sA (mk4 a b c d)))) :: L_lmade)) Tryd.f8.ntmps (opsAt (codeOf Tryd.f8) path) (opsAt (codeOf Tryd.f8) path).size (Array.replicate (opsAt (codeOf Tryd.f8) path).size false) [] ⟨[(3, .p (.one (.p 0 0))), (4, .p (.one (.p 1 0))), (6, .p (.one (.v (.bool r))))], [[.w .u64 a, .w .u64 b, .w .u64 c, .w .u64 d], [.w .u64 e, .w .u64 f, .w .u64 g, .w .u64 h]]⟩).run.bind (permAll 2 K2 [[], [0, 1, 3, 2], [], [], [0, 1, 3, 2], [0, 1, 3, 2], [], [], [], [0, 1, 3, 2], [0, 1, 3, 2], [0, 1, 3, 2]]) = some (List.replicate 12 ⟨[(6, .p (.one (.v (.bool r)))), (7, .p (.one (.p 2 0))), (8, .p (.one (.p 3 0)))], [[.w .u64 a, .w .u64 b, .w .u64 c, .w .u64 d], [.w .u64 e, .w .u64 f, .w .u64 g, .w .u64 h], (sC (mk4 a b c d)), (sC (mk4 e f g h))]⟩) := by kernel_rfl
end rg1
namespace rg2
def path : List Nat := [0, 1, 1, 1]
def K : List Nat := [6, 7, 8]
def K2 : List Nat := [6, 7, 8, 9, 10]
def orc : St → Option (Ex × St)
  | ⟨[(6, .p (.one (.v (.bool r)))), (7, .p (.one (.p 2 0))), (8, .p (.one (.p 3 0)))], [[.w .u64 p1, .w .u64 p2, .w .u64 p3, .w .u64 p4], [.w .u64 q1, .w .u64 q2, .w .u64 q3, .w .u64 q4], [.w .u64 y1, .w .u64 y2, .w .u64 y3, .w .u64 y4, .v (.int .i64 y5), .v (.int .i64 y6)], [.w .u64 z1, .w .u64 z2, .w .u64 z3, .w .u64 z4, .v (.int .i64 z5), .v (.int .i64 z6)]]⟩ => some (.normal, ⟨[(6, .p (.one (.v (.bool r)))), (7, .p (.one (.p 2 0))), (8, .p (.one (.p 3 0))), (9, .p (.one (.p 4 0))), (10, .p (.one (.p 5 0)))], [[.w .u64 p1, .w .u64 p2, .w .u64 p3, .w .u64 p4], [.w .u64 q1, .w .u64 q2, .w .u64 q3, .w .u64 q4], [.w .u64 y1, .w .u64 y2, .w .u64 y3, .w .u64 y4, .v (.int .i64 y5), .v (.int .i64 y6)], [.w .u64 z1, .w .u64 z2, .w .u64 z3, .w .u64 z4, .v (.int .i64 z5), .v (.int .i64 z6)], (sC (Sc.join ⟨⟨y1, y2⟩, y3, y4, y5, y6⟩ ⟨⟨z1, z2⟩, z3, z4, z5, z6⟩)), (sC (Sc.join ⟨⟨z1, z2⟩, z3, z4, z5, z6⟩ ⟨⟨y1, y2⟩, y3, y4, y5, y6⟩))]⟩)
  | _ => none
theorem reg (y1 y2 y3 y4 : BitVec 64) (y5 y6 : Int) (z1 z2 z3 z4 : BitVec 64) (z5 z6 : Int) (p1 p2 p3 p4 q1 q2 q3 q4 : BitVec 64) (r : Bool) : (drawL Tryd.prog (lk ((23, (sm [] (hSS fun a b => bA (Sc.inn a b)))) :: (22, (sm [] (hSS fun a b => sA (Sc.join a b)))) :: (21, (sm [] (hL4 fun a b c d => sA (mk4 a b c d)))) :: L_lmade)) Tryd.f8.ntmps (opsAt (codeOf Tryd.f8) path) (opsAt (codeOf Tryd.f8) path).size (Array.replicate (opsAt (codeOf Tryd.f8) path).size false) [] ⟨[(6, .p (.one (.v (.bool r)))), (7, .p (.one (.p 2 0))), (8, .p (.one (.p 3 0)))], [[.w .u64 p1, .w .u64 p2, .w .u64 p3, .w .u64 p4], [.w .u64 q1, .w .u64 q2, .w .u64 q3, .w .u64 q4], [.w .u64 y1, .w .u64 y2, .w .u64 y3, .w .u64 y4, .v (.int .i64 y5), .v (.int .i64 y6)], [.w .u64 z1, .w .u64 z2, .w .u64 z3, .w .u64 z4, .v (.int .i64 z5), .v (.int .i64 z6)]]⟩).run.bind (permAll 4 K2 [[], [0, 1, 2, 3, 5, 4], [], [], [0, 1, 2, 3, 5, 4], [0, 1, 2, 3, 5, 4], [], [], [], [0, 1, 2, 3, 5, 4], [0, 1, 2, 3, 5, 4], [0, 1, 2, 3, 5, 4]]) = some (List.replicate 12 ⟨[(6, .p (.one (.v (.bool r)))), (7, .p (.one (.p 2 0))), (8, .p (.one (.p 3 0))), (9, .p (.one (.p 4 0))), (10, .p (.one (.p 5 0)))], [[.w .u64 p1, .w .u64 p2, .w .u64 p3, .w .u64 p4], [.w .u64 q1, .w .u64 q2, .w .u64 q3, .w .u64 q4], [.w .u64 y1, .w .u64 y2, .w .u64 y3, .w .u64 y4, .v (.int .i64 y5), .v (.int .i64 y6)], [.w .u64 z1, .w .u64 z2, .w .u64 z3, .w .u64 z4, .v (.int .i64 z5), .v (.int .i64 z6)], (sC (Sc.join ⟨⟨y1, y2⟩, y3, y4, y5, y6⟩ ⟨⟨z1, z2⟩, z3, z4, z5, z6⟩)), (sC (Sc.join ⟨⟨z1, z2⟩, z3, z4, z5, z6⟩ ⟨⟨y1, y2⟩, y3, y4, y5, y6⟩))]⟩) := by kernel_rfl
end rg2
def LL : LT := (oneL rg2.path rg2.K rg2.K2 rg2.orc (oneL rg1.path rg1.K rg1.K2 rg1.orc noL))
theorem lok : LOk Tryd.prog (lk ((23, (sm [] (hSS fun a b => bA (Sc.inn a b)))) :: (22, (sm [] (hSS fun a b => sA (Sc.join a b)))) :: (21, (sm [] (hL4 fun a b c d => sA (mk4 a b c d)))) :: L_lmade)) Tryd.f8.ntmps 20 LL (codeOf Tryd.f8) := (lok_regP (lok_regP (noL_ok2 _ _ _ _ _ _) (by kernel_rfl) 12 [[], [0, 1, 3, 2], [], [], [0, 1, 3, 2], [0, 1, 3, 2], [], [], [], [0, 1, 3, 2], [0, 1, 3, 2], [0, 1, 3, 2]] fun st ex st' h => by
    unfold rg1.orc at h
    split at h
    · injection h with h
      injection h with h1 h2
      subst h1; subst h2
      exact ⟨rfl, 2, rfl, rg1.reg _ _ _ _ _ _ _ _ _⟩
    · cases h) (by kernel_rfl) 12 [[], [0, 1, 2, 3, 5, 4], [], [], [0, 1, 2, 3, 5, 4], [0, 1, 2, 3, 5, 4], [], [], [], [0, 1, 2, 3, 5, 4], [0, 1, 2, 3, 5, 4], [0, 1, 2, 3, 5, 4]] fun st ex st' h => by
    unfold rg2.orc at h
    split at h
    · injection h with h
      injection h with h1 h2
      subst h1; subst h2
      exact ⟨rfl, 4, rfl, rg2.reg _ _ _ _ _ _ _ _ _ _ _ _ _ _ _ _ _ _ _ _ _⟩
    · cases h)
theorem evA (a b c d e f g h : BitVec 64) (x : BitVec 64) : (evalFnL Tryd.prog (lk ((23, (sm [] (hSS fun a b => bA (Sc.inn a b)))) :: (22, (sm [] (hSS fun a b => sA (Sc.join a b)))) :: (21, (sm [] (hL4 fun a b c d => sA (mk4 a b c d)))) :: L_lmade)) 20 LL Tryd.f8 (codeOf Tryd.f8) [.p (.many [.w .u64 a, .w .u64 b, .w .u64 c, .w .u64 d]), .p (.many [.w .u64 e, .w .u64 f, .w .u64 g, .w .u64 h]), uA x] []).run = bif !(!eqS (Sc.join (mk4 a b c d) (mk4 e f g h)) (Sc.join (mk4 e f g h) (mk4 a b c d))) then bif !!Sc.inn (mk4 a b c d) (Sc.join (mk4 a b c d) (mk4 e f g h)) then bif !!Sc.inn (mk4 e f g h) (Sc.join (mk4 a b c d) (mk4 e f g h)) then bif !eqS (Sc.join (mk4 a b c d) (mk4 a b c d)) (mk4 a b c d) then some (bA false, []) else (bif !!Sc.inn (mk4 a b c d) (mk4 e f g h) then some (bA (eqS (Sc.join (mk4 a b c d) (mk4 e f g h)) (mk4 e f g h)), []) else some (bA true, [])) else some (bA false, []) else some (bA false, []) else some (bA false, []) := by kernel_rfl
theorem ev (a b c d e f g h : BitVec 64) (x : BitVec 64) : (evalFnL Tryd.prog (lk ((23, (sm [] (hSS fun a b => bA (Sc.inn a b)))) :: (22, (sm [] (hSS fun a b => sA (Sc.join a b)))) :: (21, (sm [] (hL4 fun a b c d => sA (mk4 a b c d)))) :: L_lmade)) 20 LL Tryd.f8 (codeOf Tryd.f8) [.p (.many [.w .u64 a, .w .u64 b, .w .u64 c, .w .u64 d]), .p (.many [.w .u64 e, .w .u64 f, .w .u64 g, .w .u64 h]), uA x] []).run = some (bA true, []) := by
  refine (evA a b c d e f g h x).trans ?_
  have ga := (mk4_good a b c d).1
  have gb := (mk4_good e f g h).1
  generalize mk4 a b c d = A at ga
  generalize mk4 e f g h = B at gb
  obtain ⟨gc, s1, s2⟩ := join_good ga gb
  rw [join_comm' B A, eqS_iff.2 rfl, inn_of ga gc s1, inn_of gb gc s2, join_self' ga, eqS_iff.2 rfl]
  simp only [cond_true, cond_false, Bool.not_true, Bool.not_false]
  cases hi : Sc.inn A B with
  | false => rfl
  | true =>
    rw [join_inn ga gb (inn_sub ga gb hi), eqS_iff.2 rfl]; rfl

theorem lifted (os : Os) (started : os.Started) : ∀ {H : Type} (enc : TypeId × Value → H), ReturnsInHanded {} Tryd.checked os 8 .any (fun w args => (Rows.scalarJoinsSpec.pre enc Tryd.prog Tryd.f8 [] false w args ∧ laidMetH Tryd.prog [("math/bits.deBruijn64tab", Rows.laid_math_bits_deBruijn64tab)] w) ∧ sizedMet enc Tryd.prog Tryd.f8 (OpenSpec.ofChange Rows.scalarJoinsSpec) false w args)
    (Rows.scalarJoinsSpec.post enc Tryd.prog Tryd.f8 false true false false) := by
  intro H enc
  refine law_lifted_laid (K := Kn) (by kernel_rfl) (by kernel_rfl) started (by kernel_rfl) Tryd.func8 rfl ?_ rfl (by kernel_rfl) ?_ (fun W h => tab_of_laid h)
    (ChangeSpec.witness_at (enc := enc) (C := Tryd.checked) (os := os) (X := fun w _ => laidMetH Tryd.prog [("math/bits.deBruijn64tab", Rows.laid_math_bits_deBruijn64tab)] w) false (laidWorld os) #[.agg #[.int .u64 0, .int .u64 0, .int .u64 0, .int .u64 0], .agg #[.int .u64 0, .int .u64 0, .int .u64 0, .int .u64 0], .int .u64 0] 8 rfl (by kernel_rfl) (by kernel_rfl) (by kernel_rfl) (by kernel_rfl) (by kernel_rfl) (laidWorld_met os _)) ?_
  · exact of_decide_eq_true (by kernel_rfl)
  · intro ds hds
    match ds, hds with
    | [d0, d1, d2], _ => rfl
  · refine law_flatL (lk_cons ok_sin (lk_cons ok_sjoin (lk_cons ok_lmade tok_lmade))) Tryd.checked.mixed Tryd.func8 (by rfl) 20 4 lok (sh := [.many [.i .u64, .i .u64, .i .u64, .i .u64], .many [.i .u64, .i .u64, .i .u64, .i .u64], .one (.i .u64)]) (by kernel_rfl) fun l hl => ?_
    obtain ⟨cs0, l0, rfl, ck0, hz0⟩ := FA_many hl
    obtain ⟨a, q0a, rfl, ck0a⟩ := CK_u rfl ck0
    obtain ⟨b, q0b, rfl, ck0b⟩ := CK_u rfl ck0a
    obtain ⟨c, q0c, rfl, ck0c⟩ := CK_u rfl ck0b
    obtain ⟨d, q0d, rfl, ck0d⟩ := CK_u rfl ck0c
    obtain rfl := CK_nil ck0d
    obtain ⟨cs1, l1, rfl, ck1, hz1⟩ := FA_many hz0
    obtain ⟨e, q1a, rfl, ck1a⟩ := CK_u rfl ck1
    obtain ⟨f, q1b, rfl, ck1b⟩ := CK_u rfl ck1a
    obtain ⟨g, q1c, rfl, ck1c⟩ := CK_u rfl ck1b
    obtain ⟨h, q1d, rfl, ck1d⟩ := CK_u rfl ck1c
    obtain rfl := CK_nil ck1d
    obtain ⟨cc2, l2, rfl, ck2, hz2⟩ := FA_one hz1
    obtain ⟨x, rfl⟩ := CK1_u rfl ck2
    cases FA_nil hz2
    exact ev a b c d e f g h x

theorem over : Rows.scalarJoinsRow.holds Tryd.pinned (OpenSpec.ofChange Rows.scalarJoinsSpec) :=
  OpenClaim.holds_of_wide 8 Tryd.f8 rfl rfl rfl rfl rfl rfl rfl ⟨rfl, rfl, rfl, rfl, rfl⟩ rfl rfl rfl rfl rfl (by kernel_rfl) Tryd.func8 (by kernel_rfl)
    (of_decide_eq_true (by kernel_rfl)) (by unfold Func.isWrapper; first | (rw [if_pos (by decide +kernel)]; kernel_rfl) | (rw [if_neg (by decide +kernel)]; exact ⟨rfl, rfl⟩))
    (fun os started H enc _ => lifted os started enc)
theorem holds : Rows.ScalarJoinsCardSaid :=
  Claim7.holds_tied_plain_at .later [] [.data] true (true, "d3be37834a149cbf1812c319928bc56efe8423ada25c4b3c039826ee47bc29e4") false
    over (fun _ h => by cases h) (by kernel_rfl) (fun _ h => by cases h) scalarJoins_row_tie rfl ⟨rfl, rfl⟩ (by kernel_rfl) rfl
    (fun f fn hf hfn => by
      obtain rfl : f = 8 := Option.some.inj ((show Tryd.prog.funcNamed "barbican/barbicanlaw7.ScalarJoins" = some 8 by kernel_rfl).symm.trans hf) |>.symm
      obtain rfl : fn = Tryd.f8 := (Option.some.inj (Tryd.func8.symm.trans hfn)).symm
      exact ⟨by kernel_rfl, fun j t ht => by
        have hall : ∀ t ∈ Tryd.f8.params.toList, Tryd.prog.wantsStandIn t = false := of_decide_eq_true (by kernel_rfl)
        exact hall t (Array.mem_toList_iff.2 (Array.mem_of_getElem? ht))⟩)
    (by kernel_rfl)

end
end Go.Proofs.YtlllbgcfhfgaeaaDoor.lScalarJoins
