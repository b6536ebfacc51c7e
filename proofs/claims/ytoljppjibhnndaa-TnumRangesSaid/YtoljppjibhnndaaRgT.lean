/-
  The tightest tnum of some numbers: the function's loop, its contract.
-/
import Derived.Test.YtoljppjibhnndaaRgK
import Derived.Test.YtoljppjibhnndaaTzP
namespace Go.Proofs.Ytoljppjibhnndaa
open Go Go.Sy Go.Sz Go.Tn
set_option linter.unusedVariables false
set_option linter.unusedSimpArgs false
set_option linter.constructorNameAsVariable false
set_option maxRecDepth 100000

def shT : Shape := ⟨[(0, .c (.d u64s)), (2, .c (.p 0 0)), (3, .c (.w .u64)), (4, .c (.i .i64))], [.lit [.w .u64, .w .u64]]⟩
def hdT (l : U64s) (mask : BitVec 64) (i : Int) (x y : BitVec 64) : shT.den := ((l, (), mask, i, ()), ((x, y, ()), ()))
def behT (l : U64s) (mask x y : BitVec 64) : St := ⟨[(0, .p (.one (.d u64s l))), (2, .p (.one (.p 0 0))), (3, .p (.one (.w .u64 mask)))], [(0, .lit [.w .u64 x, .w .u64 y])], 1⟩
def orcT : Orc := ⟨shT, [], [0, 2, 3], [], fun d => match d with
  | ((l, _, mask, i, _), ((x, y, _), _)) => some (decide (0 < l.length) && (decide (l.length < 4611686018427387904) && decide (0 ≤ i)), .exit 0, behT l (orX (head0 l) (l.drop i.toNat) mask) x y)⟩
def pT : List Nat := [0, 1, 0, 1, 1]
noncomputable abbrev cT : Code := Try.f8.body.getD .skip
def LT8 : LT := oneL pT orcT noL

theorem turnT8 (l : U64s) (mask x y : BitVec 64) (i : Int) : (turnT 0 orcT (evalCode Try.prog (lk L_known) Try.f8.ntmps 0 20 LT8 (bodyAt cT pT) false (0 :: pT)) (shT.enc (hdT l mask i x y))).run =
    bif decide (i < l.length) then (bif decide (0 ≤ i) && decide (i < l.length) then (bif decide ((0 : Int) ≤ 0) && decide ((0 : Int) < l.length) then
      some (.normal, shT.enc (hdT l (mask ||| (elt l i.toNat ^^^ elt l 0)) (IntKind.i64.wrap (i + 1)) x y)) else none) else none)
    else some (.exit 0, behT l mask x y) := by kernel_rfl

theorem loopT8 (l : U64s) (x y : BitVec 64) (h0 : 0 < l.length) (h1 : l.length < 4611686018427387904) : ∀ (a : BitVec 64 × Int), 0 ≤ a.2 →
    ∃ n, (loopC (turnT 0 orcT (evalCode Try.prog (lk L_known) Try.f8.ntmps 0 20 LT8 (bodyAt cT pT) false (0 :: pT))) n (shT.enc (hdT l a.1 a.2 x y))).run = some (.exit 0, behT l (orX (head0 l) (l.drop a.2.toNat) a.1) x y) :=
  loop_run (enc := fun a : BitVec 64 × Int => shT.enc (hdT l a.1 a.2 x y)) (fun a => 0 ≤ a.2) (fun a => l.length - a.2.toNat) (fun a => (.exit 0, behT l (orX (head0 l) (l.drop a.2.toNat) a.1) x y)) fun a ha => by
    obtain ⟨mask, i⟩ := a
    simp only at ha ⊢
    rw [turnT8]
    by_cases hi : i < l.length
    · left
      have hw : IntKind.i64.wrap (i + 1) = i + 1 := wrap_i64_small (by omega) (by omega)
      refine ⟨(mask ||| (elt l i.toNat ^^^ elt l 0), i + 1), ?_, by simp only; omega, by simp only; omega, ?_⟩
      · have h2 : decide (i < (l.length : Int)) = true := decide_eq_true hi
        have h3 : decide (0 ≤ i) = true := decide_eq_true ha
        have h4 : decide ((0 : Int) < (l.length : Int)) = true := decide_eq_true (by omega)
        rw [h2, h3, h4, hw]; rfl
      · have h5 : (i + 1).toNat = i.toNat + 1 := by omega
        have h6 : i.toNat < l.length := by omega
        simp only [h5]
        rw [List.drop_eq_getElem_cons h6]
        simp only [orX, List.foldl_cons, head0]
        rw [elt_get h6]
    · right
      refine ⟨?_, .inl ⟨0, rfl⟩⟩
      have h2 : decide (i < (l.length : Int)) = false := decide_eq_false hi
      rw [h2, List.drop_eq_nil_of_le (by omega)]
      rfl

theorem ev_tight (l : U64s) (h0 : 0 < l.length) : (evalFnL Try.prog (lk L_known) 20 LT8 Try.f8 cT [] [.p (.one (.d u64s l))] []).run =
    bif (decide (0 < l.length) && (decide (l.length < 4611686018427387904) && decide ((0 : Int) ≤ 1))) then (bif decide ((0 : Int) ≤ 0) && decide ((0 : Int) < l.length) then some (tA (tightOf l), []) else none) else none := by
  kernel_rfl

theorem ok_tight : SummOk Kn Try.prog 8 (sumS [.dp u64s] false [.c (.d u64s)] [] (fun x _ => decide (0 < x.1.length) && decide (x.1.length < 4611686018427387904)) (fun x _ => (tA (tightOf x.1), []))) :=
  sumS_ok tok_known Try.checked.mixed Try.func8 (by kernel_rfl) (by rfl) 20 [] (by
    rintro ⟨(l : U64s), _⟩ _ hck
    simp only [Bool.and_eq_true, decide_eq_true_eq] at hck
    refine ⟨LT8, lok_loop (noL_ok2 _ _ _ _ _ _ _) (by kernel_rfl) ?_, ?_⟩
    · rintro ⟨⟨l, _, mask, i, _⟩, ⟨⟨x, y, _⟩, _⟩⟩ ex st' h
      simp only [orcT, Option.some.injEq, Prod.mk.injEq, Bool.and_eq_true, decide_eq_true_eq] at h
      obtain ⟨⟨h0, h1, h2⟩, rfl, rfl⟩ := h
      exact loopT8 l x y h0 h1 (mask, i) h2
    · refine (ev_tight l hck.1).trans ?_
      have h2 : decide (0 < l.length) = true := decide_eq_true hck.1
      have h3 : decide (l.length < 4611686018427387904) = true := decide_eq_true hck.2
      have h4 : decide ((0 : Int) < (l.length : Int)) = true := decide_eq_true (Int.natCast_pos.2 hck.1)
      rw [h2, h3, h4]; rfl)
def L_tight : List (Nat × Summ) := (8, (sumS [.dp u64s] false [.c (.d u64s)] [] (fun x _ => decide (0 < x.1.length) && decide (x.1.length < 4611686018427387904)) (fun x _ => (tA (tightOf x.1), [])))) :: L_known
theorem tok_tight : TOk Kn Try.prog (lk L_tight) := lk_cons ok_tight tok_known
end Go.Proofs.Ytoljppjibhnndaa
