/-
  The contracts of package tnum's functions, over this seat's program (written by our own gen_tn.py).
-/
import Derived.Test.YtlaaljiffcablaaGreatDoorKn
import Derived.Test.YtlaaljiffcablaaGreatDoorRows
import Derived.Test.YtlaaljiffcablaaGreatDoorShelf
namespace Go.Proofs.YtlaaljiffcablaaGreatDoor
open Go Go.Sy Go.Tn

theorem ev_is (a b : BitVec 64) : (evalFn Tryz.prog (lk []) 20 Tryz.f52 (Tryz.f52.body.getD .skip) [tA ⟨a, b⟩] []).run = some ((fun a => bA (ok a)) ⟨a, b⟩, []) := by
  kernel_rfl
theorem ok_is : SummOk Kn Tryz.prog 52 (sm [] (gT fun a => bA (ok a))) := summ_of (lk_nil Kn Tryz.prog) Tryz.checked.mixed Tryz.func52 (by kernel_rfl) (by rfl) 20 (fun args H v H' h => by
  obtain ⟨a, b, rfl, rfl, rfl, rfl⟩ := gT_inv h; exact ev_is a b)
def L_is : List (Nat × Summ) := (52, (sm [] (gT fun a => bA (ok a)))) :: []
theorem tok_is : TOk Kn Tryz.prog (lk L_is) := lk_cons ok_is (lk_nil Kn Tryz.prog)

theorem ev_unknown  : (evalFn Tryz.prog (lk L_is) 20 Tryz.f30 (Tryz.f30.body.getD .skip) [] []).run = some ((tA unknown), []) := by
  kernel_rfl
theorem ok_unknown : SummOk Kn Tryz.prog 30 (sm [] (g0 (tA unknown))) := summ_of tok_is Tryz.checked.mixed Tryz.func30 (by kernel_rfl) (by rfl) 20 (fun args H v H' h => by
  obtain ⟨rfl, rfl, rfl, rfl⟩ := g0_inv h; exact ev_unknown)
def L_unknown : List (Nat × Summ) := (30, (sm [] (g0 (tA unknown)))) :: L_is
theorem tok_unknown : TOk Kn Tryz.prog (lk L_unknown) := lk_cons ok_unknown tok_is

theorem ev_right (a b : BitVec 64) : (evalFn Tryz.prog (lk L_unknown) 20 Tryz.f78 (Tryz.f78.body.getD .skip) [tA ⟨a, b⟩] []).run = some ((fun a => tA (right a)) ⟨a, b⟩, []) := by
  have e : (evalFn Tryz.prog (lk L_unknown) 20 Tryz.f78 (Tryz.f78.body.getD .skip) [tA ⟨a, b⟩] []).run = bif !ok ⟨a, b⟩ then some (tA unknown, []) else some (tA ⟨a, b⟩, []) := by kernel_rfl
  rw [e]
  simp only [right]
  cases ok ⟨a, b⟩ <;> rfl
theorem ok_right : SummOk Kn Tryz.prog 78 (sm [] (gT fun a => tA (right a))) := summ_of tok_unknown Tryz.checked.mixed Tryz.func78 (by kernel_rfl) (by rfl) 20 (fun args H v H' h => by
  obtain ⟨a, b, rfl, rfl, rfl, rfl⟩ := gT_inv h; exact ev_right a b)
def L_right : List (Nat × Summ) := (78, (sm [] (gT fun a => tA (right a)))) :: L_unknown
theorem tok_right : TOk Kn Tryz.prog (lk L_right) := lk_cons ok_right tok_unknown

theorem ev_const (a : BitVec 64) : (evalFn Tryz.prog (lk L_right) 20 Tryz.f39 (Tryz.f39.body.getD .skip) [uA a] []).run = some ((fun a => tA (const a)) a, []) := by
  kernel_rfl
theorem ok_const : SummOk Kn Tryz.prog 39 (sm [] (gU fun a => tA (const a))) := summ_of tok_right Tryz.checked.mixed Tryz.func39 (by kernel_rfl) (by rfl) 20 (fun args H v H' h => by
  obtain ⟨a, rfl, rfl, rfl, rfl⟩ := gU_inv h; exact ev_const a)
def L_const : List (Nat × Summ) := (39, (sm [] (gU fun a => tA (const a)))) :: L_right
theorem tok_const : TOk Kn Tryz.prog (lk L_const) := lk_cons ok_const tok_right

theorem ev_has (a b n : BitVec 64) : (evalFn Tryz.prog (lk L_const) 20 Tryz.f21 (Tryz.f21.body.getD .skip) [tA ⟨a, b⟩, uA n] []).run = some ((fun a n => bA (has a n)) ⟨a, b⟩ n, []) := by
  have e : (evalFn Tryz.prog (lk L_const) 20 Tryz.f21 (Tryz.f21.body.getD .skip) [tA ⟨a, b⟩, uA n] []).run = bif ok ⟨a, b⟩ then some (bA (n &&& ~~~b == a), []) else some (bA false, []) := by kernel_rfl
  rw [e]
  simp only [has]
  cases ok ⟨a, b⟩ <;> rfl
theorem ok_has : SummOk Kn Tryz.prog 21 (sm [] (gTU fun a n => bA (has a n))) := summ_of tok_const Tryz.checked.mixed Tryz.func21 (by kernel_rfl) (by rfl) 20 (fun args H v H' h => by
  obtain ⟨a, b, n, rfl, rfl, rfl, rfl⟩ := gTU_inv h; exact ev_has a b n)
def L_has : List (Nat × Summ) := (21, (sm [] (gTU fun a n => bA (has a n)))) :: L_const
theorem tok_has : TOk Kn Tryz.prog (lk L_has) := lk_cons ok_has tok_const

theorem ev_inn (a b c d : BitVec 64) : (evalFn Tryz.prog (lk L_has) 20 Tryz.f38 (Tryz.f38.body.getD .skip) [tA ⟨a, b⟩, tA ⟨c, d⟩] []).run = some ((fun a b => bA (inn a b)) ⟨a, b⟩ ⟨c, d⟩, []) := by
  have e : (evalFn Tryz.prog (lk L_has) 20 Tryz.f38 (Tryz.f38.body.getD .skip) [tA ⟨a, b⟩, tA ⟨c, d⟩] []).run = bif ((right ⟨a, b⟩).m &&& ~~~(right ⟨c, d⟩).m == BitVec.ofInt 64 0) then some (bA ((right ⟨a, b⟩).v &&& ~~~(right ⟨c, d⟩).m == (right ⟨c, d⟩).v), []) else some (bA false, []) := by kernel_rfl
  rw [e]
  simp only [inn, inn']
  cases ((right ⟨a, b⟩).m &&& ~~~(right ⟨c, d⟩).m == BitVec.ofInt 64 0) <;> rfl
theorem ok_inn : SummOk Kn Tryz.prog 38 (sm [] (gTT fun a b => bA (inn a b))) := summ_of tok_has Tryz.checked.mixed Tryz.func38 (by kernel_rfl) (by rfl) 20 (fun args H v H' h => by
  obtain ⟨a, b, c, d, rfl, rfl, rfl, rfl⟩ := gTT_inv h; exact ev_inn a b c d)
def L_inn : List (Nat × Summ) := (38, (sm [] (gTT fun a b => bA (inn a b)))) :: L_has
theorem tok_inn : TOk Kn Tryz.prog (lk L_inn) := lk_cons ok_inn tok_has

theorem ev_least (a b : BitVec 64) : (evalFn Tryz.prog (lk L_inn) 20 Tryz.f86 (Tryz.f86.body.getD .skip) [tA ⟨a, b⟩] []).run = some ((fun a => uA (least a)) ⟨a, b⟩, []) := by
  kernel_rfl
theorem ok_least : SummOk Kn Tryz.prog 86 (sm [] (gT fun a => uA (least a))) := summ_of tok_inn Tryz.checked.mixed Tryz.func86 (by kernel_rfl) (by rfl) 20 (fun args H v H' h => by
  obtain ⟨a, b, rfl, rfl, rfl, rfl⟩ := gT_inv h; exact ev_least a b)
def L_least : List (Nat × Summ) := (86, (sm [] (gT fun a => uA (least a)))) :: L_inn
theorem tok_least : TOk Kn Tryz.prog (lk L_least) := lk_cons ok_least tok_inn

theorem ev_most (a b : BitVec 64) : (evalFn Tryz.prog (lk L_least) 20 Tryz.f87 (Tryz.f87.body.getD .skip) [tA ⟨a, b⟩] []).run = some ((fun a => uA (most a)) ⟨a, b⟩, []) := by
  kernel_rfl
theorem ok_most : SummOk Kn Tryz.prog 87 (sm [] (gT fun a => uA (most a))) := summ_of tok_least Tryz.checked.mixed Tryz.func87 (by kernel_rfl) (by rfl) 20 (fun args H v H' h => by
  obtain ⟨a, b, rfl, rfl, rfl, rfl⟩ := gT_inv h; exact ev_most a b)
def L_most : List (Nat × Summ) := (87, (sm [] (gT fun a => uA (most a)))) :: L_least
theorem tok_most : TOk Kn Tryz.prog (lk L_most) := lk_cons ok_most tok_least

theorem ev_low (a b : BitVec 64) : (evalFn Tryz.prog (lk L_most) 20 Tryz.f66 (Tryz.f66.body.getD .skip) [tA ⟨a, b⟩] []).run = some ((fun a => tA (low a)) ⟨a, b⟩, []) := by
  kernel_rfl
theorem ok_low : SummOk Kn Tryz.prog 66 (sm [] (gT fun a => tA (low a))) := summ_of tok_most Tryz.checked.mixed Tryz.func66 (by kernel_rfl) (by rfl) 20 (fun args H v H' h => by
  obtain ⟨a, b, rfl, rfl, rfl, rfl⟩ := gT_inv h; exact ev_low a b)
def L_low : List (Nat × Summ) := (66, (sm [] (gT fun a => tA (low a)))) :: L_most
theorem tok_low : TOk Kn Tryz.prog (lk L_low) := lk_cons ok_low tok_most

theorem ev_meet (a b c d : BitVec 64) : (evalFn Tryz.prog (lk L_low) 20 Tryz.f36 (Tryz.f36.body.getD .skip) [tA ⟨a, b⟩, tA ⟨c, d⟩] []).run = some ((fun a b => tbA (meet a b) (meetOk a b)) ⟨a, b⟩ ⟨c, d⟩, []) := by
  have e : (evalFn Tryz.prog (lk L_low) 20 Tryz.f36 (Tryz.f36.body.getD .skip) [tA ⟨a, b⟩, tA ⟨c, d⟩] []).run = bif ((right ⟨a, b⟩).v &&& ~~~((right ⟨a, b⟩).m ||| (right ⟨c, d⟩).m) != (right ⟨c, d⟩).v &&& ~~~((right ⟨a, b⟩).m ||| (right ⟨c, d⟩).m)) then some (tbA ⟨BitVec.ofInt 64 0, BitVec.ofInt 64 0⟩ false, []) else some (tbA ⟨(right ⟨a, b⟩).v ||| (right ⟨c, d⟩).v, (right ⟨a, b⟩).m &&& (right ⟨c, d⟩).m⟩ true, []) := by kernel_rfl
  rw [e]
  simp only [meet, meet', meetOk, meetB]
  cases ((right ⟨a, b⟩).v &&& ~~~((right ⟨a, b⟩).m ||| (right ⟨c, d⟩).m) != (right ⟨c, d⟩).v &&& ~~~((right ⟨a, b⟩).m ||| (right ⟨c, d⟩).m)) <;> rfl
theorem ok_meet : SummOk Kn Tryz.prog 36 (sm [] (gTT fun a b => tbA (meet a b) (meetOk a b))) := summ_of tok_low Tryz.checked.mixed Tryz.func36 (by kernel_rfl) (by rfl) 20 (fun args H v H' h => by
  obtain ⟨a, b, c, d, rfl, rfl, rfl, rfl⟩ := gTT_inv h; exact ev_meet a b c d)
def L_meet : List (Nat × Summ) := (36, (sm [] (gTT fun a b => tbA (meet a b) (meetOk a b)))) :: L_low
theorem tok_meet : TOk Kn Tryz.prog (lk L_meet) := lk_cons ok_meet tok_low

theorem ev_join (a b c d : BitVec 64) : (evalFn Tryz.prog (lk L_meet) 20 Tryz.f37 (Tryz.f37.body.getD .skip) [tA ⟨a, b⟩, tA ⟨c, d⟩] []).run = some ((fun a b => tA (join a b)) ⟨a, b⟩ ⟨c, d⟩, []) := by
  have e : (evalFn Tryz.prog (lk L_meet) 20 Tryz.f37 (Tryz.f37.body.getD .skip) [tA ⟨a, b⟩, tA ⟨c, d⟩] []).run = bif eqT (right ⟨a, b⟩) (right ⟨c, d⟩) then some (tA (right ⟨a, b⟩), []) else some (tA (of (right ⟨a, b⟩).v ((right ⟨a, b⟩).m ||| (right ⟨c, d⟩).m ||| ((right ⟨a, b⟩).v ^^^ (right ⟨c, d⟩).v))), []) := by kernel_rfl
  rw [e]
  simp only [join, join']
  cases eqT (right ⟨a, b⟩) (right ⟨c, d⟩) <;> rfl
theorem ok_join : SummOk Kn Tryz.prog 37 (sm [] (gTT fun a b => tA (join a b))) := summ_of tok_meet Tryz.checked.mixed Tryz.func37 (by kernel_rfl) (by rfl) 20 (fun args H v H' h => by
  obtain ⟨a, b, c, d, rfl, rfl, rfl, rfl⟩ := gTT_inv h; exact ev_join a b c d)
def L_join : List (Nat × Summ) := (37, (sm [] (gTT fun a b => tA (join a b)))) :: L_meet
theorem tok_join : TOk Kn Tryz.prog (lk L_join) := lk_cons ok_join tok_meet

theorem ev_add (a b c d : BitVec 64) : (evalFn Tryz.prog (lk L_join) 20 Tryz.f67 (Tryz.f67.body.getD .skip) [tA ⟨a, b⟩, tA ⟨c, d⟩] []).run = some ((fun a b => tA (add a b)) ⟨a, b⟩ ⟨c, d⟩, []) := by
  kernel_rfl
theorem ok_add : SummOk Kn Tryz.prog 67 (sm [] (gTT fun a b => tA (add a b))) := summ_of tok_join Tryz.checked.mixed Tryz.func67 (by kernel_rfl) (by rfl) 20 (fun args H v H' h => by
  obtain ⟨a, b, c, d, rfl, rfl, rfl, rfl⟩ := gTT_inv h; exact ev_add a b c d)
def L_add : List (Nat × Summ) := (67, (sm [] (gTT fun a b => tA (add a b)))) :: L_join
theorem tok_add : TOk Kn Tryz.prog (lk L_add) := lk_cons ok_add tok_join

theorem ev_sub (a b c d : BitVec 64) : (evalFn Tryz.prog (lk L_add) 20 Tryz.f69 (Tryz.f69.body.getD .skip) [tA ⟨a, b⟩, tA ⟨c, d⟩] []).run = some ((fun a b => tA (sub a b)) ⟨a, b⟩ ⟨c, d⟩, []) := by
  kernel_rfl
theorem ok_sub : SummOk Kn Tryz.prog 69 (sm [] (gTT fun a b => tA (sub a b))) := summ_of tok_add Tryz.checked.mixed Tryz.func69 (by kernel_rfl) (by rfl) 20 (fun args H v H' h => by
  obtain ⟨a, b, c, d, rfl, rfl, rfl, rfl⟩ := gTT_inv h; exact ev_sub a b c d)
def L_sub : List (Nat × Summ) := (69, (sm [] (gTT fun a b => tA (sub a b)))) :: L_add
theorem tok_sub : TOk Kn Tryz.prog (lk L_sub) := lk_cons ok_sub tok_add

theorem ev_pand (a b c d : BitVec 64) : (evalFn Tryz.prog (lk L_sub) 20 Tryz.f97 (Tryz.f97.body.getD .skip) [pA ⟨a, b⟩ ⟨c, d⟩] []).run = some ((fun a b => tA (and' a b)) ⟨a, b⟩ ⟨c, d⟩, []) := by
  kernel_rfl
theorem ok_pand : SummOk Kn Tryz.prog 97 (sm [] (gP fun a b => tA (and' a b))) := summ_of tok_sub Tryz.checked.mixed Tryz.func97 (by kernel_rfl) (by rfl) 20 (fun args H v H' h => by
  obtain ⟨a, b, c, d, rfl, rfl, rfl, rfl⟩ := gP_inv h; exact ev_pand a b c d)
def L_pand : List (Nat × Summ) := (97, (sm [] (gP fun a b => tA (and' a b)))) :: L_sub
theorem tok_pand : TOk Kn Tryz.prog (lk L_pand) := lk_cons ok_pand tok_sub

theorem ev_por (a b c d : BitVec 64) : (evalFn Tryz.prog (lk L_pand) 20 Tryz.f98 (Tryz.f98.body.getD .skip) [pA ⟨a, b⟩ ⟨c, d⟩] []).run = some ((fun a b => tA (or' a b)) ⟨a, b⟩ ⟨c, d⟩, []) := by
  kernel_rfl
theorem ok_por : SummOk Kn Tryz.prog 98 (sm [] (gP fun a b => tA (or' a b))) := summ_of tok_pand Tryz.checked.mixed Tryz.func98 (by kernel_rfl) (by rfl) 20 (fun args H v H' h => by
  obtain ⟨a, b, c, d, rfl, rfl, rfl, rfl⟩ := gP_inv h; exact ev_por a b c d)
def L_por : List (Nat × Summ) := (98, (sm [] (gP fun a b => tA (or' a b)))) :: L_pand
theorem tok_por : TOk Kn Tryz.prog (lk L_por) := lk_cons ok_por tok_pand

theorem ev_pxor (a b c d : BitVec 64) : (evalFn Tryz.prog (lk L_por) 20 Tryz.f99 (Tryz.f99.body.getD .skip) [pA ⟨a, b⟩ ⟨c, d⟩] []).run = some ((fun a b => tA (xor' a b)) ⟨a, b⟩ ⟨c, d⟩, []) := by
  kernel_rfl
theorem ok_pxor : SummOk Kn Tryz.prog 99 (sm [] (gP fun a b => tA (xor' a b))) := summ_of tok_por Tryz.checked.mixed Tryz.func99 (by kernel_rfl) (by rfl) 20 (fun args H v H' h => by
  obtain ⟨a, b, c, d, rfl, rfl, rfl, rfl⟩ := gP_inv h; exact ev_pxor a b c d)
def L_pxor : List (Nat × Summ) := (99, (sm [] (gP fun a b => tA (xor' a b)))) :: L_por
theorem tok_pxor : TOk Kn Tryz.prog (lk L_pxor) := lk_cons ok_pxor tok_por

def gOf : G
  | [.p (.one (.clo 97 [])), .p (.many [.w .u64 a, .w .u64 b]), .p (.many [.w .u64 c, .w .u64 d])], [] => some (tA (and ⟨a, b⟩ ⟨c, d⟩), [])
  | [.p (.one (.clo 98 [])), .p (.many [.w .u64 a, .w .u64 b]), .p (.many [.w .u64 c, .w .u64 d])], [] => some (tA (or ⟨a, b⟩ ⟨c, d⟩), [])
  | [.p (.one (.clo 99 [])), .p (.many [.w .u64 a, .w .u64 b]), .p (.many [.w .u64 c, .w .u64 d])], [] => some (tA (xor ⟨a, b⟩ ⟨c, d⟩), [])
  | _, _ => none
theorem ev_of_and (a b c d : BitVec 64) : (evalFn Tryz.prog (lk L_pxor) 20 Tryz.f96 (Tryz.f96.body.getD .skip) [.p (.one (.clo 97 [])), tA ⟨a, b⟩, tA ⟨c, d⟩] []).run = some (tA (and ⟨a, b⟩ ⟨c, d⟩), []) := by
  kernel_rfl
theorem ev_of_or (a b c d : BitVec 64) : (evalFn Tryz.prog (lk L_pxor) 20 Tryz.f96 (Tryz.f96.body.getD .skip) [.p (.one (.clo 98 [])), tA ⟨a, b⟩, tA ⟨c, d⟩] []).run = some (tA (or ⟨a, b⟩ ⟨c, d⟩), []) := by
  kernel_rfl
theorem ev_of_xor (a b c d : BitVec 64) : (evalFn Tryz.prog (lk L_pxor) 20 Tryz.f96 (Tryz.f96.body.getD .skip) [.p (.one (.clo 99 [])), tA ⟨a, b⟩, tA ⟨c, d⟩] []).run = some (tA (xor ⟨a, b⟩ ⟨c, d⟩), []) := by
  kernel_rfl
theorem ok_of : SummOk Kn Tryz.prog 96 (sm [] (gOf)) := summ_of tok_pxor Tryz.checked.mixed Tryz.func96 (by kernel_rfl) (by rfl) 20 (fun args H v H' h => by
  simp only [gOf] at h
  split at h
  · cases h; exact ev_of_and _ _ _ _
  · cases h; exact ev_of_or _ _ _ _
  · cases h; exact ev_of_xor _ _ _ _
  · cases h)
def L_of : List (Nat × Summ) := (96, (sm [] (gOf))) :: L_pxor
theorem tok_of : TOk Kn Tryz.prog (lk L_of) := lk_cons ok_of tok_pxor

theorem ev_and (a b c d : BitVec 64) : (evalFn Tryz.prog (lk L_of) 20 Tryz.f73 (Tryz.f73.body.getD .skip) [tA ⟨a, b⟩, tA ⟨c, d⟩] []).run = some ((fun a b => tA (and a b)) ⟨a, b⟩ ⟨c, d⟩, []) := by
  kernel_rfl
theorem ok_and : SummOk Kn Tryz.prog 73 (sm [] (gTT fun a b => tA (and a b))) := summ_of tok_of Tryz.checked.mixed Tryz.func73 (by kernel_rfl) (by rfl) 20 (fun args H v H' h => by
  obtain ⟨a, b, c, d, rfl, rfl, rfl, rfl⟩ := gTT_inv h; exact ev_and a b c d)
def L_and : List (Nat × Summ) := (73, (sm [] (gTT fun a b => tA (and a b)))) :: L_of
theorem tok_and : TOk Kn Tryz.prog (lk L_and) := lk_cons ok_and tok_of

theorem ev_or (a b c d : BitVec 64) : (evalFn Tryz.prog (lk L_and) 20 Tryz.f74 (Tryz.f74.body.getD .skip) [tA ⟨a, b⟩, tA ⟨c, d⟩] []).run = some ((fun a b => tA (or a b)) ⟨a, b⟩ ⟨c, d⟩, []) := by
  kernel_rfl
theorem ok_or : SummOk Kn Tryz.prog 74 (sm [] (gTT fun a b => tA (or a b))) := summ_of tok_and Tryz.checked.mixed Tryz.func74 (by kernel_rfl) (by rfl) 20 (fun args H v H' h => by
  obtain ⟨a, b, c, d, rfl, rfl, rfl, rfl⟩ := gTT_inv h; exact ev_or a b c d)
def L_or : List (Nat × Summ) := (74, (sm [] (gTT fun a b => tA (or a b)))) :: L_and
theorem tok_or : TOk Kn Tryz.prog (lk L_or) := lk_cons ok_or tok_and

theorem ev_xor (a b c d : BitVec 64) : (evalFn Tryz.prog (lk L_or) 20 Tryz.f75 (Tryz.f75.body.getD .skip) [tA ⟨a, b⟩, tA ⟨c, d⟩] []).run = some ((fun a b => tA (xor a b)) ⟨a, b⟩ ⟨c, d⟩, []) := by
  kernel_rfl
theorem ok_xor : SummOk Kn Tryz.prog 75 (sm [] (gTT fun a b => tA (xor a b))) := summ_of tok_or Tryz.checked.mixed Tryz.func75 (by kernel_rfl) (by rfl) 20 (fun args H v H' h => by
  obtain ⟨a, b, c, d, rfl, rfl, rfl, rfl⟩ := gTT_inv h; exact ev_xor a b c d)
def L_xor : List (Nat × Summ) := (75, (sm [] (gTT fun a b => tA (xor a b)))) :: L_or
theorem tok_xor : TOk Kn Tryz.prog (lk L_xor) := lk_cons ok_xor tok_or

theorem ev_times (n m : Int) (hm : m ≠ 0) : (evalFn Tryz.prog (lk L_xor) 20 Tryz.f100 (Tryz.f100.body.getD .skip) [iA n, iA m] []).run = some (iA (times n m), []) := by
  have e : (evalFn Tryz.prog (lk L_xor) 20 Tryz.f100 (Tryz.f100.body.getD .skip) [iA n, iA m] []).run = bif decide (m = 0) then none else bif decide (m = 0) then none else some (iA (times n m), []) := by kernel_rfl
  rw [e]
  simp [hm]
theorem ok_times : SummOk Kn Tryz.prog 100 (sm [] (gII fun n m => iA (times n m))) := summ_of tok_xor Tryz.checked.mixed Tryz.func100 (by kernel_rfl) (by rfl) 20 (fun args H v H' h => by
  obtain ⟨n, m, rfl, rfl, rfl, rfl, hm⟩ := gII_inv h; exact ev_times n m hm)
def L_times : List (Nat × Summ) := (100, (sm [] (gII fun n m => iA (times n m)))) :: L_xor
theorem tok_times : TOk Kn Tryz.prog (lk L_times) := lk_cons ok_times tok_xor

theorem ev_lsh (a b : BitVec 64) (n : Int) : (evalFn Tryz.prog (lk L_times) 20 Tryz.f94 (Tryz.f94.body.getD .skip) [tA ⟨a, b⟩, iA n] []).run = some ((fun a n => tA (lsh a n)) ⟨a, b⟩ n, []) := by
  have e : (evalFn Tryz.prog (lk L_times) 20 Tryz.f94 (Tryz.f94.body.getD .skip) [tA ⟨a, b⟩, iA n] []).run = bif decide (times n 64 < 0) then none else bif decide (times n 64 < 0) then none else some (tA (lsh ⟨a, b⟩ n), []) := by kernel_rfl
  rw [e]
  simp only [times_neg (n := n) (m := 64) (by decide) (by decide), cond_false]
theorem ok_lsh : SummOk Kn Tryz.prog 94 (sm [] (gTI fun a n => tA (lsh a n))) := summ_of tok_times Tryz.checked.mixed Tryz.func94 (by kernel_rfl) (by rfl) 20 (fun args H v H' h => by
  obtain ⟨a, b, n, rfl, rfl, rfl, rfl⟩ := gTI_inv h; exact ev_lsh a b n)
def L_lsh : List (Nat × Summ) := (94, (sm [] (gTI fun a n => tA (lsh a n)))) :: L_times
theorem tok_lsh : TOk Kn Tryz.prog (lk L_lsh) := lk_cons ok_lsh tok_times

theorem ev_rsh (a b : BitVec 64) (n : Int) : (evalFn Tryz.prog (lk L_lsh) 20 Tryz.f93 (Tryz.f93.body.getD .skip) [tA ⟨a, b⟩, iA n] []).run = some ((fun a n => tA (rsh a n)) ⟨a, b⟩ n, []) := by
  have e : (evalFn Tryz.prog (lk L_lsh) 20 Tryz.f93 (Tryz.f93.body.getD .skip) [tA ⟨a, b⟩, iA n] []).run = bif decide (times n 64 < 0) then none else bif decide (times n 64 < 0) then none else some (tA (rsh ⟨a, b⟩ n), []) := by kernel_rfl
  rw [e]
  simp only [times_neg (n := n) (m := 64) (by decide) (by decide), cond_false]
theorem ok_rsh : SummOk Kn Tryz.prog 93 (sm [] (gTI fun a n => tA (rsh a n))) := summ_of tok_lsh Tryz.checked.mixed Tryz.func93 (by kernel_rfl) (by rfl) 20 (fun args H v H' h => by
  obtain ⟨a, b, n, rfl, rfl, rfl, rfl⟩ := gTI_inv h; exact ev_rsh a b n)
def L_rsh : List (Nat × Summ) := (93, (sm [] (gTI fun a n => tA (rsh a n)))) :: L_lsh
theorem tok_rsh : TOk Kn Tryz.prog (lk L_rsh) := lk_cons ok_rsh tok_lsh

theorem ev_arsh (a b : BitVec 64) (n : Int) (w : Bool) : (evalFn Tryz.prog (lk L_rsh) 20 Tryz.f77 (Tryz.f77.body.getD .skip) [tA ⟨a, b⟩, iA n, bA w] []).run = some ((fun a n w => tA (arsh a n w)) ⟨a, b⟩ n w, []) := by
  have e : (evalFn Tryz.prog (lk L_rsh) 20 Tryz.f77 (Tryz.f77.body.getD .skip) [tA ⟨a, b⟩, iA n, bA w] []).run = bif w then bif decide (times n 64 < 0) then none else bif decide (times n 64 < 0) then none else some (tA (arsh ⟨a, b⟩ n true), []) else bif decide (times n 32 < 0) then none else bif decide (times n 32 < 0) then none else some (tA (arsh ⟨a, b⟩ n false), []) := by kernel_rfl
  rw [e]
  simp only [times_neg (n := n) (m := 64) (by decide) (by decide), times_neg (n := n) (m := 32) (by decide) (by decide), cond_false]
  cases w <;> rfl
theorem ok_arsh : SummOk Kn Tryz.prog 77 (sm [] (gTIB fun a n w => tA (arsh a n w))) := summ_of tok_rsh Tryz.checked.mixed Tryz.func77 (by kernel_rfl) (by rfl) 20 (fun args H v H' h => by
  obtain ⟨a, b, n, w, rfl, rfl, rfl, rfl⟩ := gTIB_inv h; exact ev_arsh a b n w)
def L_arsh : List (Nat × Summ) := (77, (sm [] (gTIB fun a n w => tA (arsh a n w)))) :: L_rsh
theorem tok_arsh : TOk Kn Tryz.prog (lk L_arsh) := lk_cons ok_arsh tok_rsh

theorem ok_len64 : SummOk Kn Tryz.prog 102 (sm [] (gU fun x => iA (len64 x))) := summ_of_same ⟨Tryz.f102, Tryz.func102, (by kernel_rfl), (by kernel_rfl)⟩ (fun args H v H' h => by
  obtain ⟨x, rfl, rfl, rfl, rfl⟩ := gU_inv h
  refine ⟨rfl, rfl, trivial, fun r w _ => ?_⟩
  have := Tryz.bits_Len64 (x.toNat : Int) w (by omega) (by have := x.isLt; omega)
  rw [Int.toNat_natCast] at this
  exact this)
def L_len64 : List (Nat × Summ) := (102, (sm [] (gU fun x => iA (len64 x)))) :: L_arsh
theorem tok_len64 : TOk Kn Tryz.prog (lk L_len64) := lk_cons ok_len64 tok_arsh

theorem ev_range (a b : BitVec 64) : (evalFn Tryz.prog (lk L_len64) 20 Tryz.f88 (Tryz.f88.body.getD .skip) [uA a, uA b] []).run = some ((fun a b => tA (range a b)) a b, []) := by
  have e : (evalFn Tryz.prog (lk L_len64) 20 Tryz.f88 (Tryz.f88.body.getD .skip) [uA a, uA b] []).run = bif BitVec.ult b a then some (tA unknown, []) else bif decide (len64 (a ^^^ b) < 0) then none else some (tA (of a ((BitVec.ofInt 64 1 <<< (len64 (a ^^^ b)).toNat) - BitVec.ofInt 64 1)), []) := by kernel_rfl
  rw [e]
  have h1 : 0 ≤ len64 (a ^^^ b) := Int.natCast_nonneg _
  have h0 : decide (len64 (a ^^^ b) < 0) = false := decide_eq_false (by omega)
  rw [h0]
  simp only [range]
  cases BitVec.ult b a <;> rfl
theorem ok_range : SummOk Kn Tryz.prog 88 (sm [] (gUU fun a b => tA (range a b))) := summ_of tok_len64 Tryz.checked.mixed Tryz.func88 (by kernel_rfl) (by rfl) 20 (fun args H v H' h => by
  obtain ⟨a, b, rfl, rfl, rfl, rfl⟩ := gUU_inv h; exact ev_range a b)
def L_range : List (Nat × Summ) := (88, (sm [] (gUU fun a b => tA (range a b)))) :: L_len64
theorem tok_range : TOk Kn Tryz.prog (lk L_range) := lk_cons ok_range tok_len64

theorem ok_tz64 : SummOk Kn Tryz.prog 103 (sm [] (gU fun x => iA (ctz64 x))) := summ_of_same ⟨Tryz.f103, Tryz.func103, (by kernel_rfl), (by kernel_rfl)⟩ (fun args H v H' h => by
  obtain ⟨x, rfl, rfl, rfl, rfl⟩ := gU_inv h
  exact ⟨rfl, rfl, trivial, fun r w hk => Tryz.bits_TrailingZeros64 x.toNat x.isLt w fun _ => hk⟩)
def L_tz64 : List (Nat × Summ) := (103, (sm [] (gU fun x => iA (ctz64 x)))) :: L_range
theorem tok_tz64 : TOk Kn Tryz.prog (lk L_tz64) := lk_cons ok_tz64 tok_range

theorem ev_noughts (a b : BitVec 64) : (evalFn Tryz.prog (lk L_tz64) 20 Tryz.f92 (Tryz.f92.body.getD .skip) [tA ⟨a, b⟩] []).run = some ((fun a => iA (noughts a)) ⟨a, b⟩, []) := by
  kernel_rfl
theorem ok_noughts : SummOk Kn Tryz.prog 92 (sm [] (gT fun a => iA (noughts a))) := summ_of tok_tz64 Tryz.checked.mixed Tryz.func92 (by kernel_rfl) (by rfl) 20 (fun args H v H' h => by
  obtain ⟨a, b, rfl, rfl, rfl, rfl⟩ := gT_inv h; exact ev_noughts a b)
def L_noughts : List (Nat × Summ) := (92, (sm [] (gT fun a => iA (noughts a)))) :: L_tz64
theorem tok_noughts : TOk Kn Tryz.prog (lk L_noughts) := lk_cons ok_noughts tok_tz64

def L_known : List (Nat × Summ) := L_noughts
theorem tok_known : TOk Kn Tryz.prog (lk L_known) := tok_noughts
end Go.Proofs.YtlaaljiffcablaaGreatDoor
