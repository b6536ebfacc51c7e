/-
  The contracts of package barbicanref6, over this seat's program (written by our own gen_ref6.py).
-/
import Derived.Test.YtfgifilpcdhdbaaTnK
import Derived.Test.YtfgifilpcdhdbaaTnQ
namespace Go.Proofs.Ytfgifilpcdhdbaa
open Go Go.Sy Go.Tn

theorem ev_ris (a b : BitVec 64) : (evalFn Try.prog (lk L_known) 20 Try.f26 (Try.f26.body.getD .skip) [tA ⟨a, b⟩] []).run = some ((fun a => bA (ok a)) ⟨a, b⟩, []) := by
  kernel_rfl
theorem ok_ris : SummOk Try.prog 26 ⟨[], gT fun a => bA (ok a)⟩ := summ_of tok_known Try.checked.mixed Try.func26 (by kernel_rfl) (by rfl) 20 (fun args H v H' h => by
  obtain ⟨a, b, rfl, rfl, rfl, rfl⟩ := gT_inv h; exact ev_ris a b)
def L_ris : List (Nat × Summ) := (26, ⟨[], gT fun a => bA (ok a)⟩) :: L_known
theorem tok_ris : TOk Try.prog (lk L_ris) := lk_cons ok_ris tok_known

theorem ev_rhas (a b n : BitVec 64) : (evalFn Try.prog (lk L_ris) 20 Try.f28 (Try.f28.body.getD .skip) [tA ⟨a, b⟩, uA n] []).run = some ((fun a n => bA (has a n)) ⟨a, b⟩ n, []) := by
  have e : (evalFn Try.prog (lk L_ris) 20 Try.f28 (Try.f28.body.getD .skip) [tA ⟨a, b⟩, uA n] []).run = bif ok ⟨a, b⟩ then some (bA (n &&& ~~~b == a), []) else some (bA false, []) := by kernel_rfl
  rw [e]
  simp only [has]
  cases ok ⟨a, b⟩ <;> rfl
theorem ok_rhas : SummOk Try.prog 28 ⟨[], gTU fun a n => bA (has a n)⟩ := summ_of tok_ris Try.checked.mixed Try.func28 (by kernel_rfl) (by rfl) 20 (fun args H v H' h => by
  obtain ⟨a, b, n, rfl, rfl, rfl, rfl⟩ := gTU_inv h; exact ev_rhas a b n)
def L_rhas : List (Nat × Summ) := (28, ⟨[], gTU fun a n => bA (has a n)⟩) :: L_ris
theorem tok_rhas : TOk Try.prog (lk L_rhas) := lk_cons ok_rhas tok_ris

theorem ev_runknown  : (evalFn Try.prog (lk L_rhas) 20 Try.f56 (Try.f56.body.getD .skip) [] []).run = some ((tA unknown), []) := by
  kernel_rfl
theorem ok_runknown : SummOk Try.prog 56 ⟨[], g0 (tA unknown)⟩ := summ_of tok_rhas Try.checked.mixed Try.func56 (by kernel_rfl) (by rfl) 20 (fun args H v H' h => by
  obtain ⟨rfl, rfl, rfl, rfl⟩ := g0_inv h; exact ev_runknown)
def L_runknown : List (Nat × Summ) := (56, ⟨[], g0 (tA unknown)⟩) :: L_rhas
theorem tok_runknown : TOk Try.prog (lk L_runknown) := lk_cons ok_runknown tok_rhas

theorem ev_rmay (a b : BitVec 64) : (evalFn Try.prog (lk L_runknown) 20 Try.f54 (Try.f54.body.getD .skip) [tA ⟨a, b⟩] []).run = some ((fun a => tA (right a)) ⟨a, b⟩, []) := by
  have e : (evalFn Try.prog (lk L_runknown) 20 Try.f54 (Try.f54.body.getD .skip) [tA ⟨a, b⟩] []).run = bif ok ⟨a, b⟩ then some (tA ⟨a, b⟩, []) else some (tA unknown, []) := by kernel_rfl
  rw [e]
  simp only [right]
  cases ok ⟨a, b⟩ <;> rfl
theorem ok_rmay : SummOk Try.prog 54 ⟨[], gT fun a => tA (right a)⟩ := summ_of tok_runknown Try.checked.mixed Try.func54 (by kernel_rfl) (by rfl) 20 (fun args H v H' h => by
  obtain ⟨a, b, rfl, rfl, rfl, rfl⟩ := gT_inv h; exact ev_rmay a b)
def L_rmay : List (Nat × Summ) := (54, ⟨[], gT fun a => tA (right a)⟩) :: L_runknown
theorem tok_rmay : TOk Try.prog (lk L_rmay) := lk_cons ok_rmay tok_runknown

theorem ev_rof (a b : BitVec 64) : (evalFn Try.prog (lk L_rmay) 20 Try.f55 (Try.f55.body.getD .skip) [uA a, uA b] []).run = some ((fun a b => tA (of a b)) a b, []) := by
  kernel_rfl
theorem ok_rof : SummOk Try.prog 55 ⟨[], gUU fun a b => tA (of a b)⟩ := summ_of tok_rmay Try.checked.mixed Try.func55 (by kernel_rfl) (by rfl) 20 (fun args H v H' h => by
  obtain ⟨a, b, rfl, rfl, rfl, rfl⟩ := gUU_inv h; exact ev_rof a b)
def L_rof : List (Nat × Summ) := (55, ⟨[], gUU fun a b => tA (of a b)⟩) :: L_rmay
theorem tok_rof : TOk Try.prog (lk L_rof) := lk_cons ok_rof tok_rmay

theorem ev_rrange (a b : BitVec 64) : (evalFn Try.prog (lk L_rof) 20 Try.f31 (Try.f31.body.getD .skip) [uA a, uA b] []).run = some ((fun a b => tA (range a b)) a b, []) := by
  have e : (evalFn Try.prog (lk L_rof) 20 Try.f31 (Try.f31.body.getD .skip) [uA a, uA b] []).run = bif BitVec.ult b a then some (tA unknown, []) else bif decide (len64 (a ^^^ b) = 64) then some (tA unknown, []) else bif decide (len64 (a ^^^ b) < 0) then none else some (tA (of a ((BitVec.ofInt 64 1 <<< (len64 (a ^^^ b)).toNat) - BitVec.ofInt 64 1)), []) := by kernel_rfl
  rw [e]
  exact range_two a b
theorem ok_rrange : SummOk Try.prog 31 ⟨[], gUU fun a b => tA (range a b)⟩ := summ_of tok_rof Try.checked.mixed Try.func31 (by kernel_rfl) (by rfl) 20 (fun args H v H' h => by
  obtain ⟨a, b, rfl, rfl, rfl, rfl⟩ := gUU_inv h; exact ev_rrange a b)
def L_rrange : List (Nat × Summ) := (31, ⟨[], gUU fun a b => tA (range a b)⟩) :: L_rof
theorem tok_rrange : TOk Try.prog (lk L_rrange) := lk_cons ok_rrange tok_rof

theorem ev_rinn (a b c d : BitVec 64) : (evalFn Try.prog (lk L_rrange) 20 Try.f29 (Try.f29.body.getD .skip) [tA ⟨a, b⟩, tA ⟨c, d⟩] []).run = some ((fun a b => bA (inn a b)) ⟨a, b⟩ ⟨c, d⟩, []) := by
  have e : (evalFn Try.prog (lk L_rrange) 20 Try.f29 (Try.f29.body.getD .skip) [tA ⟨a, b⟩, tA ⟨c, d⟩] []).run = bif ((right ⟨a, b⟩).m &&& ~~~(right ⟨c, d⟩).m == BitVec.ofInt 64 0) then some (bA ((right ⟨a, b⟩).v &&& ~~~(right ⟨c, d⟩).m == (right ⟨c, d⟩).v), []) else some (bA false, []) := by kernel_rfl
  rw [e]
  simp only [inn, inn']
  cases ((right ⟨a, b⟩).m &&& ~~~(right ⟨c, d⟩).m == BitVec.ofInt 64 0) <;> rfl
theorem ok_rinn : SummOk Try.prog 29 ⟨[], gTT fun a b => bA (inn a b)⟩ := summ_of tok_rrange Try.checked.mixed Try.func29 (by kernel_rfl) (by rfl) 20 (fun args H v H' h => by
  obtain ⟨a, b, c, d, rfl, rfl, rfl, rfl⟩ := gTT_inv h; exact ev_rinn a b c d)
def L_rinn : List (Nat × Summ) := (29, ⟨[], gTT fun a b => bA (inn a b)⟩) :: L_rrange
theorem tok_rinn : TOk Try.prog (lk L_rinn) := lk_cons ok_rinn tok_rrange

theorem ev_rmeet (a b c d : BitVec 64) : (evalFn Try.prog (lk L_rinn) 20 Try.f25 (Try.f25.body.getD .skip) [tA ⟨a, b⟩, tA ⟨c, d⟩] []).run = some ((fun a b => tbA (meet a b) (meetOk a b)) ⟨a, b⟩ ⟨c, d⟩, []) := by
  have e : (evalFn Try.prog (lk L_rinn) 20 Try.f25 (Try.f25.body.getD .skip) [tA ⟨a, b⟩, tA ⟨c, d⟩] []).run = bif !(((right ⟨a, b⟩).v ^^^ (right ⟨c, d⟩).v) &&& ~~~(right ⟨a, b⟩).m &&& ~~~(right ⟨c, d⟩).m == BitVec.ofInt 64 0) then some (tbA ⟨BitVec.ofInt 64 0, BitVec.ofInt 64 0⟩ false, []) else some (tbA (of ((right ⟨a, b⟩).v ||| (right ⟨c, d⟩).v) ((right ⟨a, b⟩).m &&& (right ⟨c, d⟩).m)) true, []) := by kernel_rfl
  rw [e]
  exact meet_two _ _
theorem ok_rmeet : SummOk Try.prog 25 ⟨[], gTT fun a b => tbA (meet a b) (meetOk a b)⟩ := summ_of tok_rinn Try.checked.mixed Try.func25 (by kernel_rfl) (by rfl) 20 (fun args H v H' h => by
  obtain ⟨a, b, c, d, rfl, rfl, rfl, rfl⟩ := gTT_inv h; exact ev_rmeet a b c d)
def L_rmeet : List (Nat × Summ) := (25, ⟨[], gTT fun a b => tbA (meet a b) (meetOk a b)⟩) :: L_rinn
theorem tok_rmeet : TOk Try.prog (lk L_rmeet) := lk_cons ok_rmeet tok_rinn

theorem ev_rjoin (a b c d : BitVec 64) : (evalFn Try.prog (lk L_rmeet) 20 Try.f32 (Try.f32.body.getD .skip) [tA ⟨a, b⟩, tA ⟨c, d⟩] []).run = some ((fun a b => tA (join a b)) ⟨a, b⟩ ⟨c, d⟩, []) := by
  have e : (evalFn Try.prog (lk L_rmeet) 20 Try.f32 (Try.f32.body.getD .skip) [tA ⟨a, b⟩, tA ⟨c, d⟩] []).run = some (tA (of (right ⟨a, b⟩).v ((right ⟨a, b⟩).m ||| (right ⟨c, d⟩).m ||| ((right ⟨a, b⟩).v ^^^ (right ⟨c, d⟩).v))), []) := by kernel_rfl
  rw [e]
  simp only [join, join'_eq _ _ (ok_right' _)]
theorem ok_rjoin : SummOk Try.prog 32 ⟨[], gTT fun a b => tA (join a b)⟩ := summ_of tok_rmeet Try.checked.mixed Try.func32 (by kernel_rfl) (by rfl) 20 (fun args H v H' h => by
  obtain ⟨a, b, c, d, rfl, rfl, rfl, rfl⟩ := gTT_inv h; exact ev_rjoin a b c d)
def L_rjoin : List (Nat × Summ) := (32, ⟨[], gTT fun a b => tA (join a b)⟩) :: L_rmeet
theorem tok_rjoin : TOk Try.prog (lk L_rjoin) := lk_cons ok_rjoin tok_rmeet

theorem ev_radd (a b c d : BitVec 64) : (evalFn Try.prog (lk L_rjoin) 20 Try.f33 (Try.f33.body.getD .skip) [tA ⟨a, b⟩, tA ⟨c, d⟩] []).run = some ((fun a b => tA (add a b)) ⟨a, b⟩ ⟨c, d⟩, []) := by
  have e : (evalFn Try.prog (lk L_rjoin) 20 Try.f33 (Try.f33.body.getD .skip) [tA ⟨a, b⟩, tA ⟨c, d⟩] []).run = some (tA (of ((right ⟨a, b⟩).v + (right ⟨c, d⟩).v) ((((right ⟨a, b⟩).v + (right ⟨c, d⟩).v + (right ⟨a, b⟩).m + (right ⟨c, d⟩).m) ^^^ ((right ⟨a, b⟩).v + (right ⟨c, d⟩).v)) ||| (right ⟨a, b⟩).m ||| (right ⟨c, d⟩).m)), []) := by kernel_rfl
  rw [e]
  simp only [add, add', BitVec.add_assoc]
theorem ok_radd : SummOk Try.prog 33 ⟨[], gTT fun a b => tA (add a b)⟩ := summ_of tok_rjoin Try.checked.mixed Try.func33 (by kernel_rfl) (by rfl) 20 (fun args H v H' h => by
  obtain ⟨a, b, c, d, rfl, rfl, rfl, rfl⟩ := gTT_inv h; exact ev_radd a b c d)
def L_radd : List (Nat × Summ) := (33, ⟨[], gTT fun a b => tA (add a b)⟩) :: L_rjoin
theorem tok_radd : TOk Try.prog (lk L_radd) := lk_cons ok_radd tok_rjoin

theorem ev_rsub (a b c d : BitVec 64) : (evalFn Try.prog (lk L_radd) 20 Try.f34 (Try.f34.body.getD .skip) [tA ⟨a, b⟩, tA ⟨c, d⟩] []).run = some ((fun a b => tA (sub a b)) ⟨a, b⟩ ⟨c, d⟩, []) := by
  kernel_rfl
theorem ok_rsub : SummOk Try.prog 34 ⟨[], gTT fun a b => tA (sub a b)⟩ := summ_of tok_radd Try.checked.mixed Try.func34 (by kernel_rfl) (by rfl) 20 (fun args H v H' h => by
  obtain ⟨a, b, c, d, rfl, rfl, rfl, rfl⟩ := gTT_inv h; exact ev_rsub a b c d)
def L_rsub : List (Nat × Summ) := (34, ⟨[], gTT fun a b => tA (sub a b)⟩) :: L_radd
theorem tok_rsub : TOk Try.prog (lk L_rsub) := lk_cons ok_rsub tok_radd

theorem ev_rand (a b c d : BitVec 64) : (evalFn Try.prog (lk L_rsub) 20 Try.f35 (Try.f35.body.getD .skip) [tA ⟨a, b⟩, tA ⟨c, d⟩] []).run = some ((fun a b => tA (and a b)) ⟨a, b⟩ ⟨c, d⟩, []) := by
  kernel_rfl
theorem ok_rand : SummOk Try.prog 35 ⟨[], gTT fun a b => tA (and a b)⟩ := summ_of tok_rsub Try.checked.mixed Try.func35 (by kernel_rfl) (by rfl) 20 (fun args H v H' h => by
  obtain ⟨a, b, c, d, rfl, rfl, rfl, rfl⟩ := gTT_inv h; exact ev_rand a b c d)
def L_rand : List (Nat × Summ) := (35, ⟨[], gTT fun a b => tA (and a b)⟩) :: L_rsub
theorem tok_rand : TOk Try.prog (lk L_rand) := lk_cons ok_rand tok_rsub

theorem ev_ror (a b c d : BitVec 64) : (evalFn Try.prog (lk L_rand) 20 Try.f36 (Try.f36.body.getD .skip) [tA ⟨a, b⟩, tA ⟨c, d⟩] []).run = some ((fun a b => tA (or a b)) ⟨a, b⟩ ⟨c, d⟩, []) := by
  kernel_rfl
theorem ok_ror : SummOk Try.prog 36 ⟨[], gTT fun a b => tA (or a b)⟩ := summ_of tok_rand Try.checked.mixed Try.func36 (by kernel_rfl) (by rfl) 20 (fun args H v H' h => by
  obtain ⟨a, b, c, d, rfl, rfl, rfl, rfl⟩ := gTT_inv h; exact ev_ror a b c d)
def L_ror : List (Nat × Summ) := (36, ⟨[], gTT fun a b => tA (or a b)⟩) :: L_rand
theorem tok_ror : TOk Try.prog (lk L_ror) := lk_cons ok_ror tok_rand

theorem ev_rxor (a b c d : BitVec 64) : (evalFn Try.prog (lk L_ror) 20 Try.f37 (Try.f37.body.getD .skip) [tA ⟨a, b⟩, tA ⟨c, d⟩] []).run = some ((fun a b => tA (xor a b)) ⟨a, b⟩ ⟨c, d⟩, []) := by
  kernel_rfl
theorem ok_rxor : SummOk Try.prog 37 ⟨[], gTT fun a b => tA (xor a b)⟩ := summ_of tok_ror Try.checked.mixed Try.func37 (by kernel_rfl) (by rfl) 20 (fun args H v H' h => by
  obtain ⟨a, b, c, d, rfl, rfl, rfl, rfl⟩ := gTT_inv h; exact ev_rxor a b c d)
def L_rxor : List (Nat × Summ) := (37, ⟨[], gTT fun a b => tA (xor a b)⟩) :: L_ror
theorem tok_rxor : TOk Try.prog (lk L_rxor) := lk_cons ok_rxor tok_ror

theorem ev_rtimes (n m : Int) (hm : m ≠ 0) : (evalFn Try.prog (lk L_rxor) 20 Try.f57 (Try.f57.body.getD .skip) [iA n, iA m] []).run = some (iA (times n m), []) := by
  have e : (evalFn Try.prog (lk L_rxor) 20 Try.f57 (Try.f57.body.getD .skip) [iA n, iA m] []).run = bif decide (m = 0) then none else bif decide (m = 0) then none else some (iA (times n m), []) := by kernel_rfl
  rw [e]
  simp [hm]
theorem ok_rtimes : SummOk Try.prog 57 ⟨[], gII fun n m => iA (times n m)⟩ := summ_of tok_rxor Try.checked.mixed Try.func57 (by kernel_rfl) (by rfl) 20 (fun args H v H' h => by
  obtain ⟨n, m, rfl, rfl, rfl, rfl, hm⟩ := gII_inv h; exact ev_rtimes n m hm)
def L_rtimes : List (Nat × Summ) := (57, ⟨[], gII fun n m => iA (times n m)⟩) :: L_rxor
theorem tok_rtimes : TOk Try.prog (lk L_rtimes) := lk_cons ok_rtimes tok_rxor

theorem ev_rlsh (a b : BitVec 64) (n : Int) : (evalFn Try.prog (lk L_rtimes) 20 Try.f38 (Try.f38.body.getD .skip) [tA ⟨a, b⟩, iA n] []).run = some ((fun a n => tA (lsh a n)) ⟨a, b⟩ n, []) := by
  have e : (evalFn Try.prog (lk L_rtimes) 20 Try.f38 (Try.f38.body.getD .skip) [tA ⟨a, b⟩, iA n] []).run = bif decide (times n 64 < 0) then none else bif decide (times n 64 < 0) then none else some (tA (lsh ⟨a, b⟩ n), []) := by kernel_rfl
  rw [e]
  simp only [times_neg (n := n) (m := 64) (by decide) (by decide), cond_false]
theorem ok_rlsh : SummOk Try.prog 38 ⟨[], gTI fun a n => tA (lsh a n)⟩ := summ_of tok_rtimes Try.checked.mixed Try.func38 (by kernel_rfl) (by rfl) 20 (fun args H v H' h => by
  obtain ⟨a, b, n, rfl, rfl, rfl, rfl⟩ := gTI_inv h; exact ev_rlsh a b n)
def L_rlsh : List (Nat × Summ) := (38, ⟨[], gTI fun a n => tA (lsh a n)⟩) :: L_rtimes
theorem tok_rlsh : TOk Try.prog (lk L_rlsh) := lk_cons ok_rlsh tok_rtimes

theorem ev_rrsh (a b : BitVec 64) (n : Int) : (evalFn Try.prog (lk L_rlsh) 20 Try.f39 (Try.f39.body.getD .skip) [tA ⟨a, b⟩, iA n] []).run = some ((fun a n => tA (rsh a n)) ⟨a, b⟩ n, []) := by
  have e : (evalFn Try.prog (lk L_rlsh) 20 Try.f39 (Try.f39.body.getD .skip) [tA ⟨a, b⟩, iA n] []).run = bif decide (times n 64 < 0) then none else bif decide (times n 64 < 0) then none else some (tA (rsh ⟨a, b⟩ n), []) := by kernel_rfl
  rw [e]
  simp only [times_neg (n := n) (m := 64) (by decide) (by decide), cond_false]
theorem ok_rrsh : SummOk Try.prog 39 ⟨[], gTI fun a n => tA (rsh a n)⟩ := summ_of tok_rlsh Try.checked.mixed Try.func39 (by kernel_rfl) (by rfl) 20 (fun args H v H' h => by
  obtain ⟨a, b, n, rfl, rfl, rfl, rfl⟩ := gTI_inv h; exact ev_rrsh a b n)
def L_rrsh : List (Nat × Summ) := (39, ⟨[], gTI fun a n => tA (rsh a n)⟩) :: L_rlsh
theorem tok_rrsh : TOk Try.prog (lk L_rrsh) := lk_cons ok_rrsh tok_rlsh

theorem ev_rarsh (a b : BitVec 64) (n : Int) (w : Bool) : (evalFn Try.prog (lk L_rrsh) 20 Try.f40 (Try.f40.body.getD .skip) [tA ⟨a, b⟩, iA n, bA w] []).run = some ((fun a n w => tA (arsh a n w)) ⟨a, b⟩ n w, []) := by
  have e : (evalFn Try.prog (lk L_rrsh) 20 Try.f40 (Try.f40.body.getD .skip) [tA ⟨a, b⟩, iA n, bA w] []).run = bif w then bif decide (times n 64 < 0) then none else bif decide (times n 64 < 0) then none else some (tA (arsh ⟨a, b⟩ n true), []) else bif decide (times n 32 < 0) then none else bif decide (times n 32 < 0) then none else some (tA ⟨sar32' (right ⟨a, b⟩).v (times n 32).toNat, sar32' (right ⟨a, b⟩).m (times n 32).toNat⟩, []) := by kernel_rfl
  rw [e]
  simp only [times_neg (n := n) (m := 64) (by decide) (by decide), times_neg (n := n) (m := 32) (by decide) (by decide), cond_false, sar32'_eq]
  cases w <;> rfl
theorem ok_rarsh : SummOk Try.prog 40 ⟨[], gTIB fun a n w => tA (arsh a n w)⟩ := summ_of tok_rrsh Try.checked.mixed Try.func40 (by kernel_rfl) (by rfl) 20 (fun args H v H' h => by
  obtain ⟨a, b, n, w, rfl, rfl, rfl, rfl⟩ := gTIB_inv h; exact ev_rarsh a b n w)
def L_rarsh : List (Nat × Summ) := (40, ⟨[], gTIB fun a n w => tA (arsh a n w)⟩) :: L_rrsh
theorem tok_rarsh : TOk Try.prog (lk L_rarsh) := lk_cons ok_rarsh tok_rrsh

theorem ev_rlow (a b : BitVec 64) : (evalFn Try.prog (lk L_rarsh) 20 Try.f42 (Try.f42.body.getD .skip) [tA ⟨a, b⟩] []).run = some ((fun a => tA (low a)) ⟨a, b⟩, []) := by
  have e : (evalFn Try.prog (lk L_rarsh) 20 Try.f42 (Try.f42.body.getD .skip) [tA ⟨a, b⟩] []).run = some (tA ⟨(right ⟨a, b⟩).v % BitVec.ofInt 64 4294967296, (right ⟨a, b⟩).m % BitVec.ofInt 64 4294967296⟩, []) := by kernel_rfl
  rw [e]
  simp only [mod_lo, low]
theorem ok_rlow : SummOk Try.prog 42 ⟨[], gT fun a => tA (low a)⟩ := summ_of tok_rarsh Try.checked.mixed Try.func42 (by kernel_rfl) (by rfl) 20 (fun args H v H' h => by
  obtain ⟨a, b, rfl, rfl, rfl, rfl⟩ := gT_inv h; exact ev_rlow a b)
def L_rlow : List (Nat × Summ) := (42, ⟨[], gT fun a => tA (low a)⟩) :: L_rarsh
theorem tok_rlow : TOk Try.prog (lk L_rlow) := lk_cons ok_rlow tok_rarsh

theorem ev_rmost (a b : BitVec 64) : (evalFn Try.prog (lk L_rlow) 20 Try.f46 (Try.f46.body.getD .skip) [tA ⟨a, b⟩] []).run = some ((fun a => uA (most a)) ⟨a, b⟩, []) := by
  kernel_rfl
theorem ok_rmost : SummOk Try.prog 46 ⟨[], gT fun a => uA (most a)⟩ := summ_of tok_rlow Try.checked.mixed Try.func46 (by kernel_rfl) (by rfl) 20 (fun args H v H' h => by
  obtain ⟨a, b, rfl, rfl, rfl, rfl⟩ := gT_inv h; exact ev_rmost a b)
def L_rmost : List (Nat × Summ) := (46, ⟨[], gT fun a => uA (most a)⟩) :: L_rlow
theorem tok_rmost : TOk Try.prog (lk L_rmost) := lk_cons ok_rmost tok_rlow

theorem ev_rleast (a b : BitVec 64) : (evalFn Try.prog (lk L_rmost) 20 Try.f44 (Try.f44.body.getD .skip) [tA ⟨a, b⟩] []).run = some ((fun a => uA (least a)) ⟨a, b⟩, []) := by
  kernel_rfl
theorem ok_rleast : SummOk Try.prog 44 ⟨[], gT fun a => uA (least a)⟩ := summ_of tok_rmost Try.checked.mixed Try.func44 (by kernel_rfl) (by rfl) 20 (fun args H v H' h => by
  obtain ⟨a, b, rfl, rfl, rfl, rfl⟩ := gT_inv h; exact ev_rleast a b)
def L_rleast : List (Nat × Summ) := (44, ⟨[], gT fun a => uA (least a)⟩) :: L_rmost
theorem tok_rleast : TOk Try.prog (lk L_rleast) := lk_cons ok_rleast tok_rmost

end Go.Proofs.Ytfgifilpcdhdbaa
