/-
  The law of ranges: the function's loop, what it answers.
-/
import Derived.Test.YtoljppjibhnndaaRgT
namespace Go.Proofs.Ytoljppjibhnndaa
open Go Go.Sy Go.Sz Go.Tn
set_option linter.unusedVariables false
set_option linter.unusedSimpArgs false
set_option linter.constructorNameAsVariable false
set_option maxRecDepth 100000

def pL : List Nat := [0, 1, 0, 1, 1, 1, 1, 1]
noncomputable abbrev cL : Code := Try.f3.body.getD .skip
def shL : Shape := ⟨[(0, .c (.w .u64)), (5, .c (.w .u64)), (6, .c (.h 0)), (7, .c (.w .u64))], [.row u64s]⟩
def hdL (least most v : BitVec 64) (l : U64s) : shL.den := ((least, most, (), v, ()), (l, ()))
def behL (least most : BitVec 64) (l : U64s) : St := ⟨[(0, uA least), (5, uA most), (6, .p (.one (.h 0)))], [(0, .row u64s l)], 1⟩
def orcL : Orc := ⟨shL, [(6, u64s)], [0, 5, 6], [], fun d => match d with
  | ((least, most, _, v, _), ((l : U64s), _)) => some (decide (v.toNat ≤ most.toNat) && decide ((l.length + (most - v).toNat + 1) * 8 ≤ 140737488355328), .exit 0, behL least most (l ++ upTo v (most - v).toNat))⟩
def LT3 : LT := oneL pL orcL noL

theorem turnL (l : U64s) (least most v : BitVec 64) : (turnT 0 orcL (evalCode Try.prog (lk L_tight) Try.f3.ntmps 0 20 LT3 (bodyAt cL pL) false (0 :: pL)) (shL.enc (hdL least most v l))).run =
    bif Nat.ble ((l.length + 1) * 8) 140737488355328 && Nat.ble (l.length + 1) 140737488355328 then
      (bif v == most then some (.exit 0, behL least most (l ++ [(v, ())])) else some (.normal, shL.enc (hdL least most (v + BitVec.ofInt 64 1) (l ++ [(v, ())])))) else none := by kernel_rfl

theorem loopL (least most : BitVec 64) : ∀ (a : BitVec 64 × U64s), (a.1.toNat ≤ most.toNat ∧ (a.2.length + (most - a.1).toNat + 1) * 8 ≤ 140737488355328) →
    ∃ n, (loopC (turnT 0 orcL (evalCode Try.prog (lk L_tight) Try.f3.ntmps 0 20 LT3 (bodyAt cL pL) false (0 :: pL))) n (shL.enc (hdL least most a.1 a.2))).run = some (.exit 0, behL least most (a.2 ++ upTo a.1 (most - a.1).toNat)) :=
  loop_run (enc := fun a : BitVec 64 × U64s => shL.enc (hdL least most a.1 a.2)) (fun a => a.1.toNat ≤ most.toNat ∧ (a.2.length + (most - a.1).toNat + 1) * 8 ≤ 140737488355328) (fun a => (most - a.1).toNat)
    (fun a => (.exit 0, behL least most (a.2 ++ upTo a.1 (most - a.1).toNat))) fun a ha => by
    obtain ⟨v, l⟩ := a
    simp only at ha ⊢
    obtain ⟨h1, h2⟩ := ha
    rw [turnL]
    have g1 : Nat.ble ((l.length + 1) * 8) 140737488355328 = true := Nat.ble_eq_true_of_le (by omega)
    have g2 : Nat.ble (l.length + 1) 140737488355328 = true := Nat.ble_eq_true_of_le (by omega)
    rw [g1, g2]
    have hd : (most - v).toNat = most.toNat - v.toNat := by
      rw [BitVec.toNat_sub]; have := most.isLt; have := v.isLt; omega
    by_cases hv : v = most
    · right
      subst hv
      have g3 : (v == v) = true := by simp
      rw [g3]
      refine ⟨?_, .inl ⟨0, rfl⟩⟩
      have g4 : (v - v).toNat = 0 := by rw [hd]; omega
      rw [g4]; rfl
    · left
      have g3 : (v == most) = false := by simp [hv]
      have hne : v.toNat ≠ most.toNat := fun e => hv (BitVec.eq_of_toNat_eq e)
      have e1 : (v + BitVec.ofInt 64 1).toNat = v.toNat + 1 := by
        have : (BitVec.ofInt 64 1).toNat = 1 := rfl
        rw [BitVec.toNat_add, this]; have := most.isLt; omega
      have hd' : (most - (v + BitVec.ofInt 64 1)).toNat = most.toNat - (v.toNat + 1) := by
        rw [BitVec.toNat_sub, e1]; have := most.isLt; omega
      rw [g3]
      refine ⟨(v + BitVec.ofInt 64 1, l ++ [(v, ())]), rfl, ?_, ?_, ?_⟩
      · simp only [e1, hd', List.length_append, List.length_cons, List.length_nil]; omega
      · simp only [hd, hd']; omega
      · simp only [hd, hd']
        have : most.toNat - v.toNat = (most.toNat - (v.toNat + 1)) + 1 := by omega
        rw [this]
        simp only [upTo, List.append_assoc, List.singleton_append]

theorem lokL : LOk Try.prog (lk L_tight) Try.f3.ntmps 0 20 LT3 cL := lok_loop (noL_ok2 _ _ _ _ _ _ _) (by kernel_rfl) (by
  rintro ⟨⟨least, most, _, v, _⟩, ⟨l, _⟩⟩ ex st' h
  simp only [orcL, Option.some.injEq, Prod.mk.injEq, Bool.and_eq_true, decide_eq_true_eq] at h
  obtain ⟨⟨h0, h1⟩, rfl, rfl⟩ := h
  exact loopL least most (v, l) ⟨h0, h1⟩)
end Go.Proofs.Ytoljppjibhnndaa
