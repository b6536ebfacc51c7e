/-
  ScalarBranches: a branch loses no pair that goes that way, stays within what was known, and is refused only where no pair goes; no condition but that the table math/bits.deBruijn64tab holds what its initialiser lays.
-/
import Derived.Test.YtlllbgcfhfgaeaaDoorScZ
import Derived.Test.YtlllbgcfhfgaeaaDoorLaid
import Derived.Test.YtlllbgcfhfgaeaaDoorCards
namespace Go.Proofs.YtlllbgcfhfgaeaaDoor.lScalarBranches
open Go Go.Sy Go.Tn Go.Sc Go.Proofs.YtlllbgcfhfgaeaaDoor
set_option linter.unusedSimpArgs false
set_option linter.unusedVariables false
noncomputable section

namespace rg1
def path : List Nat := [0, 1, 1]
def K : List Nat := [0, 1, 2, 5, 6, 10, 11, 14]
def K2 : List Nat := [0, 1, 2, 5, 6, 10, 11, 14, 15, 16]
def orc : St → Option (Ex × St)
  | ⟨[(0, .p (.one (.v (.int .i64 op)))), (1, .p (.one (.v (.bool w)))), (2, .p (.one (.v (.bool t)))), (5, .p (.one (.v (.int .i64 i)))), (6, .p (.one (.v (.int .i64 j)))), (10, .p (.one (.p 0 0))), (11, .p (.one (.p 1 0))), (14, .p (.one (.v (.bool r))))], [[.w .u64 a, .w .u64 b, .w .u64 c, .w .u64 d], [.w .u64 e, .w .u64 f, .w .u64 g, .w .u64 h]]⟩ => some (.normal, ⟨[(0, .p (.one (.v (.int .i64 op)))), (1, .p (.one (.v (.bool w)))), (2, .p (.one (.v (.bool t)))), (5, .p (.one (.v (.int .i64 i)))), (6, .p (.one (.v (.int .i64 j)))), (10, .p (.one (.p 0 0))), (11, .p (.one (.p 1 0))), (14, .p (.one (.v (.bool r)))), (15, .p (.one (.p 2 0))), (16, .p (.one (.p 3 0)))], [[.w .u64 a, .w .u64 b, .w .u64 c, .w .u64 d], [.w .u64 e, .w .u64 f, .w .u64 g, .w .u64 h], (sC (mk4 a b c d)), (sC (mk4 e f g h))]⟩)
  | _ => none
theorem reg (op i j : Int) (w t r : Bool) (a b c d e f g h : BitVec 64) : (drawL Tryd.prog (lk ((15, (sm [] (hIBSS fun op w a b => bbA (decA op w a b) (decB op w a b)))) :: (20, (sm [] (hSU fun k n => bA (Sc.has k n)))) :: (23, (sm [] (hSS fun a b => bA (Sc.inn a b)))) :: (19, (sm [] (hS fun k => bA (is k)))) :: (16, (sm [] (hIBBSS fun op w t a b => ssbA (brA op w t a b) (brB op w t a b) (brO op w t a b)))) :: (14, (sm [] (hIBUU fun op w x y => bbA (cmp op w x y) (cmpOk op)))) :: (21, (sm [] (hL4 fun a b c d => sA (mk4 a b c d)))) :: L_lmade)) Tryd.f9.ntmps (opsAt (codeOf Tryd.f9) path) (opsAt (codeOf Tryd.f9) path).size (Array.replicate (opsAt (codeOf Tryd.f9) path).size false) [] ⟨[(0, .p (.one (.v (.int .i64 op)))), (1, .p (.one (.v (.bool w)))), (2, .p (.one (.v (.bool t)))), (5, .p (.one (.v (.int .i64 i)))), (6, .p (.one (.v (.int .i64 j)))), (10, .p (.one (.p 0 0))), (11, .p (.one (.p 1 0))), (14, .p (.one (.v (.bool r))))], [[.w .u64 a, .w .u64 b, .w .u64 c, .w .u64 d], [.w .u64 e, .w .u64 f, .w .u64 g, .w .u64 h]]⟩).run.bind (permAll 2 K2 [[], [0, 1, 3, 2], [], [], [0, 1, 3, 2], [0, 1, 3, 2], [], [], [], [0, 1, 3, 2], [0, 1, 3, 2], [0, 1, 3, 2]]) = some (List.replicate 12 ⟨[(0, .p (.one (.v (.int .i64 op)))), (1, .p (.one (.v (.bool w)))), (2, .p (.one (.v (.bool t)))), (5, .p (.one (.v (.int .i64 i)))), (6, .p (.one (.v (.int .i64 j)))), (10, .p (.one (.p 0 0))), (11, .p (.one (.p 1 0))), (14, .p (.one (.v (.bool r)))), (15, .p (.one (.p 2 0))), (16, .p (.one (.p 3 0)))], [[.w .u64 a, .w .u64 b, .w .u64 c, .w .u64 d], [.w .u64 e, .w .u64 f, .w .u64 g, .w .u64 h], (sC (mk4 a b c d)), (sC (mk4 e f g h))]⟩) := by kernel_rfl
end rg1
def LL : LT := (oneL rg1.path rg1.K rg1.K2 rg1.orc noL)
theorem lok : LOk Tryd.prog (lk ((15, (sm [] (hIBSS fun op w a b => bbA (decA op w a b) (decB op w a b)))) :: (20, (sm [] (hSU fun k n => bA (Sc.has k n)))) :: (23, (sm [] (hSS fun a b => bA (Sc.inn a b)))) :: (19, (sm [] (hS fun k => bA (is k)))) :: (16, (sm [] (hIBBSS fun op w t a b => ssbA (brA op w t a b) (brB op w t a b) (brO op w t a b)))) :: (14, (sm [] (hIBUU fun op w x y => bbA (cmp op w x y) (cmpOk op)))) :: (21, (sm [] (hL4 fun a b c d => sA (mk4 a b c d)))) :: L_lmade)) Tryd.f9.ntmps 20 LL (codeOf Tryd.f9) := (lok_regP (noL_ok2 _ _ _ _ _ _) (by kernel_rfl) 12 [[], [0, 1, 3, 2], [], [], [0, 1, 3, 2], [0, 1, 3, 2], [], [], [], [0, 1, 3, 2], [0, 1, 3, 2], [0, 1, 3, 2]] fun st ex st' h => by
    unfold rg1.orc at h
    split at h
    · injection h with h
      injection h with h1 h2
      subst h1; subst h2
      exact ⟨rfl, 2, rfl, rg1.reg _ _ _ _ _ _ _ _ _ _ _ _ _ _⟩
    · cases h)
def rest (op : Int) (w t : Bool) (A B : Sc) (x y : BitVec 64) : Option (AV × Hp) := (bif !cmpOk op then (bif (brO op w t A B) then (bif eqS (brA op w t A B) A then some (bA (eqS (brB op w t A B) B), []) else some (bA false, [])) else some (bA false, [])) else (bif (brO op w t A B) then (bif !!is (brA op w t A B) then (bif !!is (brB op w t A B) then (bif !!Sc.inn (brA op w t A B) A then (bif !!Sc.inn (brB op w t A B) B then (bif !(brO op w t A B) then (bif !(!eqS (brA op w t A B) Sc.zero) then (bif !eqS (brB op w t A B) Sc.zero then some (bA false, []) else (bif (cmp op w x y == t) then (bif !!(brO op w t A B) then (bif !!Sc.has (brA op w t A B) x then (bif !Sc.has (brB op w t A B) y then some (bA false, []) else (bif !!decA op w A B then some (bA (decB op w A B == cmp op w x y), []) else some (bA true, []))) else some (bA false, [])) else some (bA false, [])) else (bif !!decA op w A B then some (bA (decB op w A B == cmp op w x y), []) else some (bA true, [])))) else some (bA false, [])) else (bif (cmp op w x y == t) then (bif !!(brO op w t A B) then (bif !!Sc.has (brA op w t A B) x then (bif !Sc.has (brB op w t A B) y then some (bA false, []) else (bif !!decA op w A B then some (bA (decB op w A B == cmp op w x y), []) else some (bA true, []))) else some (bA false, [])) else some (bA false, [])) else (bif !!decA op w A B then some (bA (decB op w A B == cmp op w x y), []) else some (bA true, [])))) else some (bA false, [])) else some (bA false, [])) else some (bA false, [])) else some (bA false, [])) else (bif !(brO op w t A B) then (bif !(!eqS (brA op w t A B) Sc.zero) then (bif !eqS (brB op w t A B) Sc.zero then some (bA false, []) else (bif (cmp op w x y == t) then (bif !!(brO op w t A B) then (bif !!Sc.has (brA op w t A B) x then (bif !Sc.has (brB op w t A B) y then some (bA false, []) else (bif !!decA op w A B then some (bA (decB op w A B == cmp op w x y), []) else some (bA true, []))) else some (bA false, [])) else some (bA false, [])) else (bif !!decA op w A B then some (bA (decB op w A B == cmp op w x y), []) else some (bA true, [])))) else some (bA false, [])) else (bif (cmp op w x y == t) then (bif !!(brO op w t A B) then (bif !!Sc.has (brA op w t A B) x then (bif !Sc.has (brB op w t A B) y then some (bA false, []) else (bif !!decA op w A B then some (bA (decB op w A B == cmp op w x y), []) else some (bA true, []))) else some (bA false, [])) else some (bA false, [])) else (bif !!decA op w A B then some (bA (decB op w A B == cmp op w x y), []) else some (bA true, []))))))
theorem evA (op : Int) (w t : Bool) (a b c d e f g h : BitVec 64) (i j : Int) : (evalFnL Tryd.prog (lk ((15, (sm [] (hIBSS fun op w a b => bbA (decA op w a b) (decB op w a b)))) :: (20, (sm [] (hSU fun k n => bA (Sc.has k n)))) :: (23, (sm [] (hSS fun a b => bA (Sc.inn a b)))) :: (19, (sm [] (hS fun k => bA (is k)))) :: (16, (sm [] (hIBBSS fun op w t a b => ssbA (brA op w t a b) (brB op w t a b) (brO op w t a b)))) :: (14, (sm [] (hIBUU fun op w x y => bbA (cmp op w x y) (cmpOk op)))) :: (21, (sm [] (hL4 fun a b c d => sA (mk4 a b c d)))) :: L_lmade)) 20 LL Tryd.f9 (codeOf Tryd.f9) [iA op, bA w, bA t, .p (.many [.w .u64 a, .w .u64 b, .w .u64 c, .w .u64 d]), .p (.many [.w .u64 e, .w .u64 f, .w .u64 g, .w .u64 h]), iA i, iA j] []).run = (bif decide (times i 4 = 0) then (bif decide (times j 4 = 0) then rest op w t (mk4 a b c d) (mk4 e f g h) a e else (bif decide (times j 4 = 1) then rest op w t (mk4 a b c d) (mk4 e f g h) a f else (bif decide (times j 4 = 2) then rest op w t (mk4 a b c d) (mk4 e f g h) a g else (bif decide (times j 4 = 3) then rest op w t (mk4 a b c d) (mk4 e f g h) a h else none)))) else (bif decide (times i 4 = 1) then (bif decide (times j 4 = 0) then rest op w t (mk4 a b c d) (mk4 e f g h) b e else (bif decide (times j 4 = 1) then rest op w t (mk4 a b c d) (mk4 e f g h) b f else (bif decide (times j 4 = 2) then rest op w t (mk4 a b c d) (mk4 e f g h) b g else (bif decide (times j 4 = 3) then rest op w t (mk4 a b c d) (mk4 e f g h) b h else none)))) else (bif decide (times i 4 = 2) then (bif decide (times j 4 = 0) then rest op w t (mk4 a b c d) (mk4 e f g h) c e else (bif decide (times j 4 = 1) then rest op w t (mk4 a b c d) (mk4 e f g h) c f else (bif decide (times j 4 = 2) then rest op w t (mk4 a b c d) (mk4 e f g h) c g else (bif decide (times j 4 = 3) then rest op w t (mk4 a b c d) (mk4 e f g h) c h else none)))) else (bif decide (times i 4 = 3) then (bif decide (times j 4 = 0) then rest op w t (mk4 a b c d) (mk4 e f g h) d e else (bif decide (times j 4 = 1) then rest op w t (mk4 a b c d) (mk4 e f g h) d f else (bif decide (times j 4 = 2) then rest op w t (mk4 a b c d) (mk4 e f g h) d g else (bif decide (times j 4 = 3) then rest op w t (mk4 a b c d) (mk4 e f g h) d h else none)))) else none)))) := by kernel_rfl
theorem rest_true {op : Int} {w t : Bool} {A B : Sc} {x y : BitVec 64} (ga : Sc.Good A) (gb : Sc.Good B) (hx : Has A x) (hy : Has B y) : rest op w t A B x y = some (bA true, []) := by
  unfold rest
  cases hc : cmpOk op with
  | false =>
    have hb : branch op w t A B = some (A, B) := by
      unfold branch branch'
      rw [hc, right_of ga.st, right_of gb.st]; rfl
    have e1 : brA op w t A B = A := by unfold brA; rw [hb]; rfl
    have e2 : brB op w t A B = B := by unfold brB; rw [hb]; rfl
    have e3 : brO op w t A B = true := by unfold brO; rw [hb]; rfl
    rw [e1, e2, e3, eqS_iff.2 rfl, eqS_iff.2 rfl]; rfl
  | true =>
    have hd : (bif !!decA op w A B then some (bA (decB op w A B == cmp op w x y), []) else some (bA true, ([] : Hp))) = some (bA true, []) := by
      unfold decA decB
      cases h1 : (decided op w A B).1 with
      | false => rfl
      | true =>
        rw [decided_right ga gb hx hy hc h1]
        simp
    rw [hd]
    cases hb : branch op w t A B with
    | none =>
      have e1 : brA op w t A B = Sc.zero := by unfold brA; rw [hb]; rfl
      have e2 : brB op w t A B = Sc.zero := by unfold brB; rw [hb]; rfl
      have e3 : brO op w t A B = false := by unfold brO; rw [hb]; rfl
      have hne : (cmp op w x y == t) = false := by
        cases he : (cmp op w x y == t) with
        | false => rfl
        | true =>
          obtain ⟨s, u, h1, _⟩ := branch_has ga gb hx hy hc (eq_of_beq he)
          rw [hb] at h1; cases h1
      rw [e1, e2, e3, hne, eqS_iff.2 rfl]; rfl
    | some q =>
      obtain ⟨s, u⟩ := q
      obtain ⟨g1, g2, s1, s2⟩ := branch_in ga gb hc hb
      have e1 : brA op w t A B = s := by unfold brA; rw [hb]; rfl
      have e2 : brB op w t A B = u := by unfold brB; rw [hb]; rfl
      have e3 : brO op w t A B = true := by unfold brO; rw [hb]; rfl
      rw [e1, e2, e3, is_iff.2 g1.st, is_iff.2 g2.st, inn_of g1 ga s1, inn_of g2 gb s2]
      cases he : (cmp op w x y == t) with
      | false => rfl
      | true =>
        obtain ⟨s', u', h1, h2, h3⟩ := branch_has ga gb hx hy hc (eq_of_beq he)
        rw [hb] at h1
        injection h1 with h1
        injection h1 with h4 h5
        subst h4; subst h5
        rw [Sc.has_iff.2 h2, Sc.has_iff.2 h3]; rfl
theorem times4 (i : Int) (hlo : -9223372036854775808 ≤ i) (hhi : i ≤ 9223372036854775807) : times i 4 = 0 ∨ times i 4 = 1 ∨ times i 4 = 2 ∨ times i 4 = 3 := by
  unfold times
  have h1 := Int.tmod_lt_of_pos i (by omega : (0 : Int) < 4)
  have h2 : -4 < i.tmod 4 := Int.lt_tmod_of_pos i (by omega)
  rw [wrap_i64_small (by omega) (by omega)]
  have h3 : 0 ≤ (i.tmod 4 + 4).tmod 4 := Int.tmod_nonneg 4 (by omega)
  have h4 := Int.tmod_lt_of_pos (i.tmod 4 + 4) (by omega : (0 : Int) < 4)
  omega
theorem ev (op : Int) (w t : Bool) (a b c d e f g h : BitVec 64) (i j : Int) (hi : -9223372036854775808 ≤ i ∧ i ≤ 9223372036854775807) (hj : -9223372036854775808 ≤ j ∧ j ≤ 9223372036854775807) : (evalFnL Tryd.prog (lk ((15, (sm [] (hIBSS fun op w a b => bbA (decA op w a b) (decB op w a b)))) :: (20, (sm [] (hSU fun k n => bA (Sc.has k n)))) :: (23, (sm [] (hSS fun a b => bA (Sc.inn a b)))) :: (19, (sm [] (hS fun k => bA (is k)))) :: (16, (sm [] (hIBBSS fun op w t a b => ssbA (brA op w t a b) (brB op w t a b) (brO op w t a b)))) :: (14, (sm [] (hIBUU fun op w x y => bbA (cmp op w x y) (cmpOk op)))) :: (21, (sm [] (hL4 fun a b c d => sA (mk4 a b c d)))) :: L_lmade)) 20 LL Tryd.f9 (codeOf Tryd.f9) [iA op, bA w, bA t, .p (.many [.w .u64 a, .w .u64 b, .w .u64 c, .w .u64 d]), .p (.many [.w .u64 e, .w .u64 f, .w .u64 g, .w .u64 h]), iA i, iA j] []).run = some (bA true, []) := by
  refine (evA op w t a b c d e f g h i j).trans ?_
  obtain ⟨ga, ha⟩ := mk4_good a b c d
  obtain ⟨gb, hb⟩ := mk4_good e f g h
  have k1 := ha a (.inl rfl)
  have k2 := ha b (.inr (.inl rfl))
  have k3 := ha c (.inr (.inr (.inl rfl)))
  have k4 := ha d (.inr (.inr (.inr rfl)))
  have m1 := hb e (.inl rfl)
  have m2 := hb f (.inr (.inl rfl))
  have m3 := hb g (.inr (.inr (.inl rfl)))
  have m4 := hb h (.inr (.inr (.inr rfl)))
  rw [rest_true ga gb k1 m1, rest_true ga gb k1 m2, rest_true ga gb k1 m3, rest_true ga gb k1 m4, rest_true ga gb k2 m1, rest_true ga gb k2 m2, rest_true ga gb k2 m3, rest_true ga gb k2 m4,
    rest_true ga gb k3 m1, rest_true ga gb k3 m2, rest_true ga gb k3 m3, rest_true ga gb k3 m4, rest_true ga gb k4 m1, rest_true ga gb k4 m2, rest_true ga gb k4 m3, rest_true ga gb k4 m4]
  rcases times4 i hi.1 hi.2 with h | h | h | h <;> rcases times4 j hj.1 hj.2 with h' | h' | h' | h' <;> rw [h, h'] <;> rfl
theorem ev2 (op : Int) (w t : Bool) (a b c d e f g h : BitVec 64) (i j : Int) (hi : IntKind.i64.min ≤ i ∧ i ≤ IntKind.i64.max) (hj : IntKind.i64.min ≤ j ∧ j ≤ IntKind.i64.max) : (evalFnL Tryd.prog (lk ((15, (sm [] (hIBSS fun op w a b => bbA (decA op w a b) (decB op w a b)))) :: (20, (sm [] (hSU fun k n => bA (Sc.has k n)))) :: (23, (sm [] (hSS fun a b => bA (Sc.inn a b)))) :: (19, (sm [] (hS fun k => bA (is k)))) :: (16, (sm [] (hIBBSS fun op w t a b => ssbA (brA op w t a b) (brB op w t a b) (brO op w t a b)))) :: (14, (sm [] (hIBUU fun op w x y => bbA (cmp op w x y) (cmpOk op)))) :: (21, (sm [] (hL4 fun a b c d => sA (mk4 a b c d)))) :: L_lmade)) 20 LL Tryd.f9 (codeOf Tryd.f9) [iA op, bA w, bA t, .p (.many [.w .u64 a, .w .u64 b, .w .u64 c, .w .u64 d]), .p (.many [.w .u64 e, .w .u64 f, .w .u64 g, .w .u64 h]), iA i, iA j] []).run = some (bA true, []) :=
  ev op w t a b c d e f g h i j hi hj

theorem lifted (os : Os) (started : os.Started) : ∀ {H : Type} (enc : TypeId × Value → H), ReturnsInHanded {} Tryd.checked os 9 .any (fun w args => (Rows.scalarBranchesSpec.pre enc Tryd.prog Tryd.f9 [] false w args ∧ laidMetH Tryd.prog [("math/bits.deBruijn64tab", Rows.laid_math_bits_deBruijn64tab)] w) ∧ sizedMet enc Tryd.prog Tryd.f9 (OpenSpec.ofChange Rows.scalarBranchesSpec) false w args)
    (Rows.scalarBranchesSpec.post enc Tryd.prog Tryd.f9 false true false false) := by
  intro H enc
  refine law_lifted_laid (K := Kn) (by kernel_rfl) (by kernel_rfl) started (by kernel_rfl) Tryd.func9 rfl ?_ rfl (by kernel_rfl) ?_ (fun W h => tab_of_laid h)
    (ChangeSpec.witness_at (enc := enc) (C := Tryd.checked) (os := os) (X := fun w _ => laidMetH Tryd.prog [("math/bits.deBruijn64tab", Rows.laid_math_bits_deBruijn64tab)] w) false (laidWorld os) #[.int .i64 0, .bool false, .bool false, .agg #[.int .u64 0, .int .u64 0, .int .u64 0, .int .u64 0], .agg #[.int .u64 0, .int .u64 0, .int .u64 0, .int .u64 0], .int .i64 0, .int .i64 0] 8 rfl (by kernel_rfl) (by kernel_rfl) (by kernel_rfl) (by kernel_rfl) (by kernel_rfl) (laidWorld_met os _)) ?_
  · exact of_decide_eq_true (by kernel_rfl)
  · intro ds hds
    match ds, hds with
    | [d0, d1, d2, d3, d4, d5, d6], _ => rfl
  · refine law_flatL (lk_cons ok_sdecided (lk_cons ok_shas (lk_cons ok_sin (lk_cons ok_sis (lk_cons ok_sbranch (lk_cons ok_aluCmp (lk_cons ok_lmade tok_lmade))))))) Tryd.checked.mixed Tryd.func9 (by rfl) 20 4 lok (sh := [.one (.i .i64), .one .b, .one .b, .many [.i .u64, .i .u64, .i .u64, .i .u64], .many [.i .u64, .i .u64, .i .u64, .i .u64], .one (.i .i64), .one (.i .i64)]) (by kernel_rfl) fun l hl => ?_
    obtain ⟨cc0, l0, rfl, ck0, hz0⟩ := FA_one hl
    obtain ⟨op, rfl, op_lo, op_hi⟩ := CK1_s rfl ck0
    obtain ⟨cc1, l1, rfl, ck1, hz1⟩ := FA_one hz0
    obtain ⟨w, rfl⟩ := CK1_b ck1
    obtain ⟨cc2, l2, rfl, ck2, hz2⟩ := FA_one hz1
    obtain ⟨t, rfl⟩ := CK1_b ck2
    obtain ⟨cs3, l3, rfl, ck3, hz3⟩ := FA_many hz2
    obtain ⟨a, q3a, rfl, ck3a⟩ := CK_u rfl ck3
    obtain ⟨b, q3b, rfl, ck3b⟩ := CK_u rfl ck3a
    obtain ⟨c, q3c, rfl, ck3c⟩ := CK_u rfl ck3b
    obtain ⟨d, q3d, rfl, ck3d⟩ := CK_u rfl ck3c
    obtain rfl := CK_nil ck3d
    obtain ⟨cs4, l4, rfl, ck4, hz4⟩ := FA_many hz3
    obtain ⟨e, q4a, rfl, ck4a⟩ := CK_u rfl ck4
    obtain ⟨f, q4b, rfl, ck4b⟩ := CK_u rfl ck4a
    obtain ⟨g, q4c, rfl, ck4c⟩ := CK_u rfl ck4b
    obtain ⟨h, q4d, rfl, ck4d⟩ := CK_u rfl ck4c
    obtain rfl := CK_nil ck4d
    obtain ⟨cc5, l5, rfl, ck5, hz5⟩ := FA_one hz4
    obtain ⟨i, rfl, i_lo, i_hi⟩ := CK1_s rfl ck5
    obtain ⟨cc6, l6, rfl, ck6, hz6⟩ := FA_one hz5
    obtain ⟨j, rfl, j_lo, j_hi⟩ := CK1_s rfl ck6
    cases FA_nil hz6
    exact ev2 op w t a b c d e f g h i j ⟨i_lo, i_hi⟩ ⟨j_lo, j_hi⟩

theorem over : Rows.scalarBranchesRow.holds Tryd.pinned (OpenSpec.ofChange Rows.scalarBranchesSpec) :=
  OpenClaim.holds_of_wide 9 Tryd.f9 rfl rfl rfl rfl rfl rfl rfl ⟨rfl, rfl, rfl, rfl, rfl⟩ rfl rfl rfl rfl rfl (by kernel_rfl) Tryd.func9 (by kernel_rfl)
    (of_decide_eq_true (by kernel_rfl)) (by unfold Func.isWrapper; first | (rw [if_pos (by decide +kernel)]; kernel_rfl) | (rw [if_neg (by decide +kernel)]; exact ⟨rfl, rfl⟩))
    (fun os started H enc _ => lifted os started enc)
theorem holds : Rows.ScalarBranchesCardSaid :=
  Claim7.holds_tied_plain_at .later [] [.data] true (true, "d3be37834a149cbf1812c319928bc56efe8423ada25c4b3c039826ee47bc29e4") false
    over (fun _ h => by cases h) (by kernel_rfl) (fun _ h => by cases h) scalarBranches_row_tie rfl ⟨rfl, rfl⟩ (by kernel_rfl) rfl
    (fun f fn hf hfn => by
      obtain rfl : f = 9 := Option.some.inj ((show Tryd.prog.funcNamed "barbican/barbicanlaw7.ScalarBranches" = some 9 by kernel_rfl).symm.trans hf) |>.symm
      obtain rfl : fn = Tryd.f9 := (Option.some.inj (Tryd.func9.symm.trans hfn)).symm
      exact ⟨by kernel_rfl, fun j t ht => by
        have hall : ∀ t ∈ Tryd.f9.params.toList, Tryd.prog.wantsStandIn t = false := of_decide_eq_true (by kernel_rfl)
        exact hall t (Array.mem_toList_iff.2 (Array.mem_of_getElem? ht))⟩)
    (by kernel_rfl)

end
end Go.Proofs.YtlllbgcfhfgaeaaDoor.lScalarBranches
