/-
  The contracts of package tnum's functions, over this seat's program (written by our own gen_tn.py).
-/
import Derived.Test.YtfgifilpcdhdbaaTnS
import Derived.Test.YtfgifilpcdhdbaaRows
import Derived.Test.YtfgifilpcdhdbaaShelf
namespace Go.Proofs.Ytfgifilpcdhdbaa
open Go Go.Sy Go.Tn

theorem ev_is (a b : BitVec 64) : (evalFn Try.prog (lk []) 20 Try.f12 (Try.f12.body.getD .skip) [tA ⟨a, b⟩] []).run = some ((fun a => bA (ok a)) ⟨a, b⟩, []) := by
  kernel_rfl
theorem ok_is : SummOk Try.prog 12 ⟨[], gT fun a => bA (ok a)⟩ := summ_of (lk_nil Try.prog) Try.checked.mixed Try.func12 (by kernel_rfl) (by rfl) 20 (fun args H v H' h => by
  obtain ⟨a, b, rfl, rfl, rfl, rfl⟩ := gT_inv h; exact ev_is a b)
def L_is : List (Nat × Summ) := (12, ⟨[], gT fun a => bA (ok a)⟩) :: []
theorem tok_is : TOk Try.prog (lk L_is) := lk_cons ok_is (lk_nil Try.prog)

theorem ev_unknown  : (evalFn Try.prog (lk L_is) 20 Try.f10 (Try.f10.body.getD .skip) [] []).run = some ((tA unknown), []) := by
  kernel_rfl
theorem ok_unknown : SummOk Try.prog 10 ⟨[], g0 (tA unknown)⟩ := summ_of tok_is Try.checked.mixed Try.func10 (by kernel_rfl) (by rfl) 20 (fun args H v H' h => by
  obtain ⟨rfl, rfl, rfl, rfl⟩ := g0_inv h; exact ev_unknown)
def L_unknown : List (Nat × Summ) := (10, ⟨[], g0 (tA unknown)⟩) :: L_is
theorem tok_unknown : TOk Try.prog (lk L_unknown) := lk_cons ok_unknown tok_is

theorem ev_right (a b : BitVec 64) : (evalFn Try.prog (lk L_unknown) 20 Try.f48 (Try.f48.body.getD .skip) [tA ⟨a, b⟩] []).run = some ((fun a => tA (right a)) ⟨a, b⟩, []) := by
  have e : (evalFn Try.prog (lk L_unknown) 20 Try.f48 (Try.f48.body.getD .skip) [tA ⟨a, b⟩] []).run = bif !ok ⟨a, b⟩ then some (tA unknown, []) else some (tA ⟨a, b⟩, []) := by kernel_rfl
  rw [e]
  simp only [right]
  cases ok ⟨a, b⟩ <;> rfl
theorem ok_right : SummOk Try.prog 48 ⟨[], gT fun a => tA (right a)⟩ := summ_of tok_unknown Try.checked.mixed Try.func48 (by kernel_rfl) (by rfl) 20 (fun args H v H' h => by
  obtain ⟨a, b, rfl, rfl, rfl, rfl⟩ := gT_inv h; exact ev_right a b)
def L_right : List (Nat × Summ) := (48, ⟨[], gT fun a => tA (right a)⟩) :: L_unknown
theorem tok_right : TOk Try.prog (lk L_right) := lk_cons ok_right tok_unknown

theorem ev_const (a : BitVec 64) : (evalFn Try.prog (lk L_right) 20 Try.f30 (Try.f30.body.getD .skip) [uA a] []).run = some ((fun a => tA (const a)) a, []) := by
  kernel_rfl
theorem ok_const : SummOk Try.prog 30 ⟨[], gU fun a => tA (const a)⟩ := summ_of tok_right Try.checked.mixed Try.func30 (by kernel_rfl) (by rfl) 20 (fun args H v H' h => by
  obtain ⟨a, rfl, rfl, rfl, rfl⟩ := gU_inv h; exact ev_const a)
def L_const : List (Nat × Summ) := (30, ⟨[], gU fun a => tA (const a)⟩) :: L_right
theorem tok_const : TOk Try.prog (lk L_const) := lk_cons ok_const tok_right

theorem ev_has (a b n : BitVec 64) : (evalFn Try.prog (lk L_const) 20 Try.f27 (Try.f27.body.getD .skip) [tA ⟨a, b⟩, uA n] []).run = some ((fun a n => bA (has a n)) ⟨a, b⟩ n, []) := by
  have e : (evalFn Try.prog (lk L_const) 20 Try.f27 (Try.f27.body.getD .skip) [tA ⟨a, b⟩, uA n] []).run = bif ok ⟨a, b⟩ then some (bA (n &&& ~~~b == a), []) else some (bA false, []) := by kernel_rfl
  rw [e]
  simp only [has]
  cases ok ⟨a, b⟩ <;> rfl
theorem ok_has : SummOk Try.prog 27 ⟨[], gTU fun a n => bA (has a n)⟩ := summ_of tok_const Try.checked.mixed Try.func27 (by kernel_rfl) (by rfl) 20 (fun args H v H' h => by
  obtain ⟨a, b, n, rfl, rfl, rfl, rfl⟩ := gTU_inv h; exact ev_has a b n)
def L_has : List (Nat × Summ) := (27, ⟨[], gTU fun a n => bA (has a n)⟩) :: L_const
theorem tok_has : TOk Try.prog (lk L_has) := lk_cons ok_has tok_const

theorem ev_inn (a b c d : BitVec 64) : (evalFn Try.prog (lk L_has) 20 Try.f15 (Try.f15.body.getD .skip) [tA ⟨a, b⟩, tA ⟨c, d⟩] []).run = some ((fun a b => bA (inn a b)) ⟨a, b⟩ ⟨c, d⟩, []) := by
  have e : (evalFn Try.prog (lk L_has) 20 Try.f15 (Try.f15.body.getD .skip) [tA ⟨a, b⟩, tA ⟨c, d⟩] []).run = bif ((right ⟨a, b⟩).m &&& ~~~(right ⟨c, d⟩).m == BitVec.ofInt 64 0) then some (bA ((right ⟨a, b⟩).v &&& ~~~(right ⟨c, d⟩).m == (right ⟨c, d⟩).v), []) else some (bA false, []) := by kernel_rfl
  rw [e]
  simp only [inn, inn']
  cases ((right ⟨a, b⟩).m &&& ~~~(right ⟨c, d⟩).m == BitVec.ofInt 64 0) <;> rfl
theorem ok_inn : SummOk Try.prog 15 ⟨[], gTT fun a b => bA (inn a b)⟩ := summ_of tok_has Try.checked.mixed Try.func15 (by kernel_rfl) (by rfl) 20 (fun args H v H' h => by
  obtain ⟨a, b, c, d, rfl, rfl, rfl, rfl⟩ := gTT_inv h; exact ev_inn a b c d)
def L_inn : List (Nat × Summ) := (15, ⟨[], gTT fun a b => bA (inn a b)⟩) :: L_has
theorem tok_inn : TOk Try.prog (lk L_inn) := lk_cons ok_inn tok_has

theorem ev_least (a b : BitVec 64) : (evalFn Try.prog (lk L_inn) 20 Try.f43 (Try.f43.body.getD .skip) [tA ⟨a, b⟩] []).run = some ((fun a => uA (least a)) ⟨a, b⟩, []) := by
  kernel_rfl
theorem ok_least : SummOk Try.prog 43 ⟨[], gT fun a => uA (least a)⟩ := summ_of tok_inn Try.checked.mixed Try.func43 (by kernel_rfl) (by rfl) 20 (fun args H v H' h => by
  obtain ⟨a, b, rfl, rfl, rfl, rfl⟩ := gT_inv h; exact ev_least a b)
def L_least : List (Nat × Summ) := (43, ⟨[], gT fun a => uA (least a)⟩) :: L_inn
theorem tok_least : TOk Try.prog (lk L_least) := lk_cons ok_least tok_inn

theorem ev_most (a b : BitVec 64) : (evalFn Try.prog (lk L_least) 20 Try.f45 (Try.f45.body.getD .skip) [tA ⟨a, b⟩] []).run = some ((fun a => uA (most a)) ⟨a, b⟩, []) := by
  kernel_rfl
theorem ok_most : SummOk Try.prog 45 ⟨[], gT fun a => uA (most a)⟩ := summ_of tok_least Try.checked.mixed Try.func45 (by kernel_rfl) (by rfl) 20 (fun args H v H' h => by
  obtain ⟨a, b, rfl, rfl, rfl, rfl⟩ := gT_inv h; exact ev_most a b)
def L_most : List (Nat × Summ) := (45, ⟨[], gT fun a => uA (most a)⟩) :: L_least
theorem tok_most : TOk Try.prog (lk L_most) := lk_cons ok_most tok_least

theorem ev_low (a b : BitVec 64) : (evalFn Try.prog (lk L_most) 20 Try.f41 (Try.f41.body.getD .skip) [tA ⟨a, b⟩] []).run = some ((fun a => tA (low a)) ⟨a, b⟩, []) := by
  kernel_rfl
theorem ok_low : SummOk Try.prog 41 ⟨[], gT fun a => tA (low a)⟩ := summ_of tok_most Try.checked.mixed Try.func41 (by kernel_rfl) (by rfl) 20 (fun args H v H' h => by
  obtain ⟨a, b, rfl, rfl, rfl, rfl⟩ := gT_inv h; exact ev_low a b)
def L_low : List (Nat × Summ) := (41, ⟨[], gT fun a => tA (low a)⟩) :: L_most
theorem tok_low : TOk Try.prog (lk L_low) := lk_cons ok_low tok_most

theorem ev_meet (a b c d : BitVec 64) : (evalFn Try.prog (lk L_low) 20 Try.f13 (Try.f13.body.getD .skip) [tA ⟨a, b⟩, tA ⟨c, d⟩] []).run = some ((fun a b => tbA (meet a b) (meetOk a b)) ⟨a, b⟩ ⟨c, d⟩, []) := by
  have e : (evalFn Try.prog (lk L_low) 20 Try.f13 (Try.f13.body.getD .skip) [tA ⟨a, b⟩, tA ⟨c, d⟩] []).run = bif ((right ⟨a, b⟩).v &&& ~~~((right ⟨a, b⟩).m ||| (right ⟨c, d⟩).m) != (right ⟨c, d⟩).v &&& ~~~((right ⟨a, b⟩).m ||| (right ⟨c, d⟩).m)) then some (tbA ⟨BitVec.ofInt 64 0, BitVec.ofInt 64 0⟩ false, []) else some (tbA ⟨(right ⟨a, b⟩).v ||| (right ⟨c, d⟩).v, (right ⟨a, b⟩).m &&& (right ⟨c, d⟩).m⟩ true, []) := by kernel_rfl
  rw [e]
  simp only [meet, meet', meetOk, meetB]
  cases ((right ⟨a, b⟩).v &&& ~~~((right ⟨a, b⟩).m ||| (right ⟨c, d⟩).m) != (right ⟨c, d⟩).v &&& ~~~((right ⟨a, b⟩).m ||| (right ⟨c, d⟩).m)) <;> rfl
theorem ok_meet : SummOk Try.prog 13 ⟨[], gTT fun a b => tbA (meet a b) (meetOk a b)⟩ := summ_of tok_low Try.checked.mixed Try.func13 (by kernel_rfl) (by rfl) 20 (fun args H v H' h => by
  obtain ⟨a, b, c, d, rfl, rfl, rfl, rfl⟩ := gTT_inv h; exact ev_meet a b c d)
def L_meet : List (Nat × Summ) := (13, ⟨[], gTT fun a b => tbA (meet a b) (meetOk a b)⟩) :: L_low
theorem tok_meet : TOk Try.prog (lk L_meet) := lk_cons ok_meet tok_low

theorem ev_join (a b c d : BitVec 64) : (evalFn Try.prog (lk L_meet) 20 Try.f14 (Try.f14.body.getD .skip) [tA ⟨a, b⟩, tA ⟨c, d⟩] []).run = some ((fun a b => tA (join a b)) ⟨a, b⟩ ⟨c, d⟩, []) := by
  have e : (evalFn Try.prog (lk L_meet) 20 Try.f14 (Try.f14.body.getD .skip) [tA ⟨a, b⟩, tA ⟨c, d⟩] []).run = bif eqT (right ⟨a, b⟩) (right ⟨c, d⟩) then some (tA (right ⟨a, b⟩), []) else some (tA (of (right ⟨a, b⟩).v ((right ⟨a, b⟩).m ||| (right ⟨c, d⟩).m ||| ((right ⟨a, b⟩).v ^^^ (right ⟨c, d⟩).v))), []) := by kernel_rfl
  rw [e]
  simp only [join, join']
  cases eqT (right ⟨a, b⟩) (right ⟨c, d⟩) <;> rfl
theorem ok_join : SummOk Try.prog 14 ⟨[], gTT fun a b => tA (join a b)⟩ := summ_of tok_meet Try.checked.mixed Try.func14 (by kernel_rfl) (by rfl) 20 (fun args H v H' h => by
  obtain ⟨a, b, c, d, rfl, rfl, rfl, rfl⟩ := gTT_inv h; exact ev_join a b c d)
def L_join : List (Nat × Summ) := (14, ⟨[], gTT fun a b => tA (join a b)⟩) :: L_meet
theorem tok_join : TOk Try.prog (lk L_join) := lk_cons ok_join tok_meet

theorem ev_add (a b c d : BitVec 64) : (evalFn Try.prog (lk L_join) 20 Try.f17 (Try.f17.body.getD .skip) [tA ⟨a, b⟩, tA ⟨c, d⟩] []).run = some ((fun a b => tA (add a b)) ⟨a, b⟩ ⟨c, d⟩, []) := by
  kernel_rfl
theorem ok_add : SummOk Try.prog 17 ⟨[], gTT fun a b => tA (add a b)⟩ := summ_of tok_join Try.checked.mixed Try.func17 (by kernel_rfl) (by rfl) 20 (fun args H v H' h => by
  obtain ⟨a, b, c, d, rfl, rfl, rfl, rfl⟩ := gTT_inv h; exact ev_add a b c d)
def L_add : List (Nat × Summ) := (17, ⟨[], gTT fun a b => tA (add a b)⟩) :: L_join
theorem tok_add : TOk Try.prog (lk L_add) := lk_cons ok_add tok_join

theorem ev_sub (a b c d : BitVec 64) : (evalFn Try.prog (lk L_add) 20 Try.f18 (Try.f18.body.getD .skip) [tA ⟨a, b⟩, tA ⟨c, d⟩] []).run = some ((fun a b => tA (sub a b)) ⟨a, b⟩ ⟨c, d⟩, []) := by
  kernel_rfl
theorem ok_sub : SummOk Try.prog 18 ⟨[], gTT fun a b => tA (sub a b)⟩ := summ_of tok_add Try.checked.mixed Try.func18 (by kernel_rfl) (by rfl) 20 (fun args H v H' h => by
  obtain ⟨a, b, c, d, rfl, rfl, rfl, rfl⟩ := gTT_inv h; exact ev_sub a b c d)
def L_sub : List (Nat × Summ) := (18, ⟨[], gTT fun a b => tA (sub a b)⟩) :: L_add
theorem tok_sub : TOk Try.prog (lk L_sub) := lk_cons ok_sub tok_add

theorem ev_pand (a b c d : BitVec 64) : (evalFn Try.prog (lk L_sub) 20 Try.f50 (Try.f50.body.getD .skip) [pA ⟨a, b⟩ ⟨c, d⟩] []).run = some ((fun a b => tA (and' a b)) ⟨a, b⟩ ⟨c, d⟩, []) := by
  kernel_rfl
theorem ok_pand : SummOk Try.prog 50 ⟨[], gP fun a b => tA (and' a b)⟩ := summ_of tok_sub Try.checked.mixed Try.func50 (by kernel_rfl) (by rfl) 20 (fun args H v H' h => by
  obtain ⟨a, b, c, d, rfl, rfl, rfl, rfl⟩ := gP_inv h; exact ev_pand a b c d)
def L_pand : List (Nat × Summ) := (50, ⟨[], gP fun a b => tA (and' a b)⟩) :: L_sub
theorem tok_pand : TOk Try.prog (lk L_pand) := lk_cons ok_pand tok_sub

theorem ev_por (a b c d : BitVec 64) : (evalFn Try.prog (lk L_pand) 20 Try.f51 (Try.f51.body.getD .skip) [pA ⟨a, b⟩ ⟨c, d⟩] []).run = some ((fun a b => tA (or' a b)) ⟨a, b⟩ ⟨c, d⟩, []) := by
  kernel_rfl
theorem ok_por : SummOk Try.prog 51 ⟨[], gP fun a b => tA (or' a b)⟩ := summ_of tok_pand Try.checked.mixed Try.func51 (by kernel_rfl) (by rfl) 20 (fun args H v H' h => by
  obtain ⟨a, b, c, d, rfl, rfl, rfl, rfl⟩ := gP_inv h; exact ev_por a b c d)
def L_por : List (Nat × Summ) := (51, ⟨[], gP fun a b => tA (or' a b)⟩) :: L_pand
theorem tok_por : TOk Try.prog (lk L_por) := lk_cons ok_por tok_pand

theorem ev_pxor (a b c d : BitVec 64) : (evalFn Try.prog (lk L_por) 20 Try.f52 (Try.f52.body.getD .skip) [pA ⟨a, b⟩ ⟨c, d⟩] []).run = some ((fun a b => tA (xor' a b)) ⟨a, b⟩ ⟨c, d⟩, []) := by
  kernel_rfl
theorem ok_pxor : SummOk Try.prog 52 ⟨[], gP fun a b => tA (xor' a b)⟩ := summ_of tok_por Try.checked.mixed Try.func52 (by kernel_rfl) (by rfl) 20 (fun args H v H' h => by
  obtain ⟨a, b, c, d, rfl, rfl, rfl, rfl⟩ := gP_inv h; exact ev_pxor a b c d)
def L_pxor : List (Nat × Summ) := (52, ⟨[], gP fun a b => tA (xor' a b)⟩) :: L_por
theorem tok_pxor : TOk Try.prog (lk L_pxor) := lk_cons ok_pxor tok_por

def gOf : G
  | [.p (.one (.clo 50 [])), .p (.many [.w .u64 a, .w .u64 b]), .p (.many [.w .u64 c, .w .u64 d])], [] => some (tA (and ⟨a, b⟩ ⟨c, d⟩), [])
  | [.p (.one (.clo 51 [])), .p (.many [.w .u64 a, .w .u64 b]), .p (.many [.w .u64 c, .w .u64 d])], [] => some (tA (or ⟨a, b⟩ ⟨c, d⟩), [])
  | [.p (.one (.clo 52 [])), .p (.many [.w .u64 a, .w .u64 b]), .p (.many [.w .u64 c, .w .u64 d])], [] => some (tA (xor ⟨a, b⟩ ⟨c, d⟩), [])
  | _, _ => none
theorem ev_of_and (a b c d : BitVec 64) : (evalFn Try.prog (lk L_pxor) 20 Try.f49 (Try.f49.body.getD .skip) [.p (.one (.clo 50 [])), tA ⟨a, b⟩, tA ⟨c, d⟩] []).run = some (tA (and ⟨a, b⟩ ⟨c, d⟩), []) := by
  kernel_rfl
theorem ev_of_or (a b c d : BitVec 64) : (evalFn Try.prog (lk L_pxor) 20 Try.f49 (Try.f49.body.getD .skip) [.p (.one (.clo 51 [])), tA ⟨a, b⟩, tA ⟨c, d⟩] []).run = some (tA (or ⟨a, b⟩ ⟨c, d⟩), []) := by
  kernel_rfl
theorem ev_of_xor (a b c d : BitVec 64) : (evalFn Try.prog (lk L_pxor) 20 Try.f49 (Try.f49.body.getD .skip) [.p (.one (.clo 52 [])), tA ⟨a, b⟩, tA ⟨c, d⟩] []).run = some (tA (xor ⟨a, b⟩ ⟨c, d⟩), []) := by
  kernel_rfl
theorem ok_of : SummOk Try.prog 49 ⟨[], gOf⟩ := summ_of tok_pxor Try.checked.mixed Try.func49 (by kernel_rfl) (by rfl) 20 (fun args H v H' h => by
  simp only [gOf] at h
  split at h
  · cases h; exact ev_of_and _ _ _ _
  · cases h; exact ev_of_or _ _ _ _
  · cases h; exact ev_of_xor _ _ _ _
  · cases h)
def L_of : List (Nat × Summ) := (49, ⟨[], gOf⟩) :: L_pxor
theorem tok_of : TOk Try.prog (lk L_of) := lk_cons ok_of tok_pxor

theorem ev_and (a b c d : BitVec 64) : (evalFn Try.prog (lk L_of) 20 Try.f19 (Try.f19.body.getD .skip) [tA ⟨a, b⟩, tA ⟨c, d⟩] []).run = some ((fun a b => tA (and a b)) ⟨a, b⟩ ⟨c, d⟩, []) := by
  kernel_rfl
theorem ok_and : SummOk Try.prog 19 ⟨[], gTT fun a b => tA (and a b)⟩ := summ_of tok_of Try.checked.mixed Try.func19 (by kernel_rfl) (by rfl) 20 (fun args H v H' h => by
  obtain ⟨a, b, c, d, rfl, rfl, rfl, rfl⟩ := gTT_inv h; exact ev_and a b c d)
def L_and : List (Nat × Summ) := (19, ⟨[], gTT fun a b => tA (and a b)⟩) :: L_of
theorem tok_and : TOk Try.prog (lk L_and) := lk_cons ok_and tok_of

theorem ev_or (a b c d : BitVec 64) : (evalFn Try.prog (lk L_and) 20 Try.f20 (Try.f20.body.getD .skip) [tA ⟨a, b⟩, tA ⟨c, d⟩] []).run = some ((fun a b => tA (or a b)) ⟨a, b⟩ ⟨c, d⟩, []) := by
  kernel_rfl
theorem ok_or : SummOk Try.prog 20 ⟨[], gTT fun a b => tA (or a b)⟩ := summ_of tok_and Try.checked.mixed Try.func20 (by kernel_rfl) (by rfl) 20 (fun args H v H' h => by
  obtain ⟨a, b, c, d, rfl, rfl, rfl, rfl⟩ := gTT_inv h; exact ev_or a b c d)
def L_or : List (Nat × Summ) := (20, ⟨[], gTT fun a b => tA (or a b)⟩) :: L_and
theorem tok_or : TOk Try.prog (lk L_or) := lk_cons ok_or tok_and

theorem ev_xor (a b c d : BitVec 64) : (evalFn Try.prog (lk L_or) 20 Try.f21 (Try.f21.body.getD .skip) [tA ⟨a, b⟩, tA ⟨c, d⟩] []).run = some ((fun a b => tA (xor a b)) ⟨a, b⟩ ⟨c, d⟩, []) := by
  kernel_rfl
theorem ok_xor : SummOk Try.prog 21 ⟨[], gTT fun a b => tA (xor a b)⟩ := summ_of tok_or Try.checked.mixed Try.func21 (by kernel_rfl) (by rfl) 20 (fun args H v H' h => by
  obtain ⟨a, b, c, d, rfl, rfl, rfl, rfl⟩ := gTT_inv h; exact ev_xor a b c d)
def L_xor : List (Nat × Summ) := (21, ⟨[], gTT fun a b => tA (xor a b)⟩) :: L_or
theorem tok_xor : TOk Try.prog (lk L_xor) := lk_cons ok_xor tok_or

theorem ev_times (n m : Int) (hm : m ≠ 0) : (evalFn Try.prog (lk L_xor) 20 Try.f53 (Try.f53.body.getD .skip) [iA n, iA m] []).run = some (iA (times n m), []) := by
  have e : (evalFn Try.prog (lk L_xor) 20 Try.f53 (Try.f53.body.getD .skip) [iA n, iA m] []).run = bif decide (m = 0) then none else bif decide (m = 0) then none else some (iA (times n m), []) := by kernel_rfl
  rw [e]
  simp [hm]
theorem ok_times : SummOk Try.prog 53 ⟨[], gII fun n m => iA (times n m)⟩ := summ_of tok_xor Try.checked.mixed Try.func53 (by kernel_rfl) (by rfl) 20 (fun args H v H' h => by
  obtain ⟨n, m, rfl, rfl, rfl, rfl, hm⟩ := gII_inv h; exact ev_times n m hm)
def L_times : List (Nat × Summ) := (53, ⟨[], gII fun n m => iA (times n m)⟩) :: L_xor
theorem tok_times : TOk Try.prog (lk L_times) := lk_cons ok_times tok_xor

theorem ev_lsh (a b : BitVec 64) (n : Int) : (evalFn Try.prog (lk L_times) 20 Try.f22 (Try.f22.body.getD .skip) [tA ⟨a, b⟩, iA n] []).run = some ((fun a n => tA (lsh a n)) ⟨a, b⟩ n, []) := by
  have e : (evalFn Try.prog (lk L_times) 20 Try.f22 (Try.f22.body.getD .skip) [tA ⟨a, b⟩, iA n] []).run = bif decide (times n 64 < 0) then none else bif decide (times n 64 < 0) then none else some (tA (lsh ⟨a, b⟩ n), []) := by kernel_rfl
  rw [e]
  simp only [times_neg (n := n) (m := 64) (by decide) (by decide), cond_false]
theorem ok_lsh : SummOk Try.prog 22 ⟨[], gTI fun a n => tA (lsh a n)⟩ := summ_of tok_times Try.checked.mixed Try.func22 (by kernel_rfl) (by rfl) 20 (fun args H v H' h => by
  obtain ⟨a, b, n, rfl, rfl, rfl, rfl⟩ := gTI_inv h; exact ev_lsh a b n)
def L_lsh : List (Nat × Summ) := (22, ⟨[], gTI fun a n => tA (lsh a n)⟩) :: L_times
theorem tok_lsh : TOk Try.prog (lk L_lsh) := lk_cons ok_lsh tok_times

theorem ev_rsh (a b : BitVec 64) (n : Int) : (evalFn Try.prog (lk L_lsh) 20 Try.f23 (Try.f23.body.getD .skip) [tA ⟨a, b⟩, iA n] []).run = some ((fun a n => tA (rsh a n)) ⟨a, b⟩ n, []) := by
  have e : (evalFn Try.prog (lk L_lsh) 20 Try.f23 (Try.f23.body.getD .skip) [tA ⟨a, b⟩, iA n] []).run = bif decide (times n 64 < 0) then none else bif decide (times n 64 < 0) then none else some (tA (rsh ⟨a, b⟩ n), []) := by kernel_rfl
  rw [e]
  simp only [times_neg (n := n) (m := 64) (by decide) (by decide), cond_false]
theorem ok_rsh : SummOk Try.prog 23 ⟨[], gTI fun a n => tA (rsh a n)⟩ := summ_of tok_lsh Try.checked.mixed Try.func23 (by kernel_rfl) (by rfl) 20 (fun args H v H' h => by
  obtain ⟨a, b, n, rfl, rfl, rfl, rfl⟩ := gTI_inv h; exact ev_rsh a b n)
def L_rsh : List (Nat × Summ) := (23, ⟨[], gTI fun a n => tA (rsh a n)⟩) :: L_lsh
theorem tok_rsh : TOk Try.prog (lk L_rsh) := lk_cons ok_rsh tok_lsh

theorem ev_arsh (a b : BitVec 64) (n : Int) (w : Bool) : (evalFn Try.prog (lk L_rsh) 20 Try.f24 (Try.f24.body.getD .skip) [tA ⟨a, b⟩, iA n, bA w] []).run = some ((fun a n w => tA (arsh a n w)) ⟨a, b⟩ n w, []) := by
  have e : (evalFn Try.prog (lk L_rsh) 20 Try.f24 (Try.f24.body.getD .skip) [tA ⟨a, b⟩, iA n, bA w] []).run = bif w then bif decide (times n 64 < 0) then none else bif decide (times n 64 < 0) then none else some (tA (arsh ⟨a, b⟩ n true), []) else bif decide (times n 32 < 0) then none else bif decide (times n 32 < 0) then none else some (tA (arsh ⟨a, b⟩ n false), []) := by kernel_rfl
  rw [e]
  simp only [times_neg (n := n) (m := 64) (by decide) (by decide), times_neg (n := n) (m := 32) (by decide) (by decide), cond_false]
  cases w <;> rfl
theorem ok_arsh : SummOk Try.prog 24 ⟨[], gTIB fun a n w => tA (arsh a n w)⟩ := summ_of tok_rsh Try.checked.mixed Try.func24 (by kernel_rfl) (by rfl) 20 (fun args H v H' h => by
  obtain ⟨a, b, n, w, rfl, rfl, rfl, rfl⟩ := gTIB_inv h; exact ev_arsh a b n w)
def L_arsh : List (Nat × Summ) := (24, ⟨[], gTIB fun a n w => tA (arsh a n w)⟩) :: L_rsh
theorem tok_arsh : TOk Try.prog (lk L_arsh) := lk_cons ok_arsh tok_rsh

theorem ok_len64 : SummOk Try.prog 47 ⟨[], gU fun x => iA (len64 x)⟩ := summ_of_same ⟨Try.f47, Try.func47, (by kernel_rfl), (by kernel_rfl)⟩ (fun args H v H' h => by
  obtain ⟨x, rfl, rfl, rfl, rfl⟩ := gU_inv h
  refine ⟨rfl, rfl, trivial, fun r w => ?_⟩
  have := Try.bits_Len64 (x.toNat : Int) w (by omega) (by have := x.isLt; omega)
  rw [Int.toNat_natCast] at this
  exact this)
def L_len64 : List (Nat × Summ) := (47, ⟨[], gU fun x => iA (len64 x)⟩) :: L_arsh
theorem tok_len64 : TOk Try.prog (lk L_len64) := lk_cons ok_len64 tok_arsh

theorem ev_range (a b : BitVec 64) : (evalFn Try.prog (lk L_len64) 20 Try.f9 (Try.f9.body.getD .skip) [uA a, uA b] []).run = some ((fun a b => tA (range a b)) a b, []) := by
  have e : (evalFn Try.prog (lk L_len64) 20 Try.f9 (Try.f9.body.getD .skip) [uA a, uA b] []).run = bif BitVec.ult b a then some (tA unknown, []) else bif decide (len64 (a ^^^ b) < 0) then none else some (tA (of a ((BitVec.ofInt 64 1 <<< (len64 (a ^^^ b)).toNat) - BitVec.ofInt 64 1)), []) := by kernel_rfl
  rw [e]
  have h1 : 0 ≤ len64 (a ^^^ b) := Int.natCast_nonneg _
  have h0 : decide (len64 (a ^^^ b) < 0) = false := decide_eq_false (by omega)
  rw [h0]
  simp only [range]
  cases BitVec.ult b a <;> rfl
theorem ok_range : SummOk Try.prog 9 ⟨[], gUU fun a b => tA (range a b)⟩ := summ_of tok_len64 Try.checked.mixed Try.func9 (by kernel_rfl) (by rfl) 20 (fun args H v H' h => by
  obtain ⟨a, b, rfl, rfl, rfl, rfl⟩ := gUU_inv h; exact ev_range a b)
def L_range : List (Nat × Summ) := (9, ⟨[], gUU fun a b => tA (range a b)⟩) :: L_len64
theorem tok_range : TOk Try.prog (lk L_range) := lk_cons ok_range tok_len64

theorem ev_known  : (evalFn Try.prog (lk L_range) 20 Try.f8 (Try.f8.body.getD .skip) [] []).run = some ((bA true), []) := by
  kernel_rfl
theorem ok_known : SummOk Try.prog 8 ⟨[], g0 (bA true)⟩ := summ_of tok_range Try.checked.mixed Try.func8 (by kernel_rfl) (by rfl) 20 (fun args H v H' h => by
  obtain ⟨rfl, rfl, rfl, rfl⟩ := g0_inv h; exact ev_known)
def L_known : List (Nat × Summ) := (8, ⟨[], g0 (bA true)⟩) :: L_range
theorem tok_known : TOk Try.prog (lk L_known) := lk_cons ok_known tok_range

end Go.Proofs.Ytfgifilpcdhdbaa
