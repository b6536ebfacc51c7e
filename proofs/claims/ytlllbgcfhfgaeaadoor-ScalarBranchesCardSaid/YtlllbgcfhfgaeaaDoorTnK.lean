/-
  The contracts of package tnum's functions, over this seat's program (written by our own gen_tn.py).
-/
import Derived.Test.YtlllbgcfhfgaeaaDoorKn
import Derived.Test.YtlllbgcfhfgaeaaDoorRows
import Derived.Test.YtlllbgcfhfgaeaaDoorShelf
namespace Go.Proofs.YtlllbgcfhfgaeaaDoor
open Go Go.Sy Go.Tn

theorem ev_is (a b : BitVec 64) : (evalFn Tryd.prog (lk []) 20 Tryd.f83 (Tryd.f83.body.getD .skip) [tA ⟨a, b⟩] []).run = some ((fun a => bA (ok a)) ⟨a, b⟩, []) := by
  kernel_rfl
theorem ok_is : SummOk Kn Tryd.prog 83 (sm [] (gT fun a => bA (ok a))) := summ_of (lk_nil Kn Tryd.prog) Tryd.checked.mixed Tryd.func83 (by kernel_rfl) (by rfl) 20 (fun args H v H' h => by
  obtain ⟨a, b, rfl, rfl, rfl, rfl⟩ := gT_inv h; exact ev_is a b)
def L_is : List (Nat × Summ) := (83, (sm [] (gT fun a => bA (ok a)))) :: []
theorem tok_is : TOk Kn Tryd.prog (lk L_is) := lk_cons ok_is (lk_nil Kn Tryd.prog)

theorem ev_unknown  : (evalFn Tryd.prog (lk L_is) 20 Tryd.f44 (Tryd.f44.body.getD .skip) [] []).run = some ((tA unknown), []) := by
  kernel_rfl
theorem ok_unknown : SummOk Kn Tryd.prog 44 (sm [] (g0 (tA unknown))) := summ_of tok_is Tryd.checked.mixed Tryd.func44 (by kernel_rfl) (by rfl) 20 (fun args H v H' h => by
  obtain ⟨rfl, rfl, rfl, rfl⟩ := g0_inv h; exact ev_unknown)
def L_unknown : List (Nat × Summ) := (44, (sm [] (g0 (tA unknown)))) :: L_is
theorem tok_unknown : TOk Kn Tryd.prog (lk L_unknown) := lk_cons ok_unknown tok_is

theorem ev_right (a b : BitVec 64) : (evalFn Tryd.prog (lk L_unknown) 20 Tryd.f84 (Tryd.f84.body.getD .skip) [tA ⟨a, b⟩] []).run = some ((fun a => tA (right a)) ⟨a, b⟩, []) := by
  have e : (evalFn Tryd.prog (lk L_unknown) 20 Tryd.f84 (Tryd.f84.body.getD .skip) [tA ⟨a, b⟩] []).run = bif !ok ⟨a, b⟩ then some (tA unknown, []) else some (tA ⟨a, b⟩, []) := by kernel_rfl
  rw [e]
  simp only [right]
  cases ok ⟨a, b⟩ <;> rfl
theorem ok_right : SummOk Kn Tryd.prog 84 (sm [] (gT fun a => tA (right a))) := summ_of tok_unknown Tryd.checked.mixed Tryd.func84 (by kernel_rfl) (by rfl) 20 (fun args H v H' h => by
  obtain ⟨a, b, rfl, rfl, rfl, rfl⟩ := gT_inv h; exact ev_right a b)
def L_right : List (Nat × Summ) := (84, (sm [] (gT fun a => tA (right a)))) :: L_unknown
theorem tok_right : TOk Kn Tryd.prog (lk L_right) := lk_cons ok_right tok_unknown

theorem ev_const (a : BitVec 64) : (evalFn Tryd.prog (lk L_right) 20 Tryd.f32 (Tryd.f32.body.getD .skip) [uA a] []).run = some ((fun a => tA (const a)) a, []) := by
  kernel_rfl
theorem ok_const : SummOk Kn Tryd.prog 32 (sm [] (gU fun a => tA (const a))) := summ_of tok_right Tryd.checked.mixed Tryd.func32 (by kernel_rfl) (by rfl) 20 (fun args H v H' h => by
  obtain ⟨a, rfl, rfl, rfl, rfl⟩ := gU_inv h; exact ev_const a)
def L_const : List (Nat × Summ) := (32, (sm [] (gU fun a => tA (const a)))) :: L_right
theorem tok_const : TOk Kn Tryd.prog (lk L_const) := lk_cons ok_const tok_right

theorem ev_has (a b n : BitVec 64) : (evalFn Tryd.prog (lk L_const) 20 Tryd.f45 (Tryd.f45.body.getD .skip) [tA ⟨a, b⟩, uA n] []).run = some ((fun a n => bA (has a n)) ⟨a, b⟩ n, []) := by
  have e : (evalFn Tryd.prog (lk L_const) 20 Tryd.f45 (Tryd.f45.body.getD .skip) [tA ⟨a, b⟩, uA n] []).run = bif ok ⟨a, b⟩ then some (bA (n &&& ~~~b == a), []) else some (bA false, []) := by kernel_rfl
  rw [e]
  simp only [has]
  cases ok ⟨a, b⟩ <;> rfl
theorem ok_has : SummOk Kn Tryd.prog 45 (sm [] (gTU fun a n => bA (has a n))) := summ_of tok_const Tryd.checked.mixed Tryd.func45 (by kernel_rfl) (by rfl) 20 (fun args H v H' h => by
  obtain ⟨a, b, n, rfl, rfl, rfl, rfl⟩ := gTU_inv h; exact ev_has a b n)
def L_has : List (Nat × Summ) := (45, (sm [] (gTU fun a n => bA (has a n)))) :: L_const
theorem tok_has : TOk Kn Tryd.prog (lk L_has) := lk_cons ok_has tok_const

theorem ev_inn (a b c d : BitVec 64) : (evalFn Tryd.prog (lk L_has) 20 Tryd.f47 (Tryd.f47.body.getD .skip) [tA ⟨a, b⟩, tA ⟨c, d⟩] []).run = some ((fun a b => bA (inn a b)) ⟨a, b⟩ ⟨c, d⟩, []) := by
  have e : (evalFn Tryd.prog (lk L_has) 20 Tryd.f47 (Tryd.f47.body.getD .skip) [tA ⟨a, b⟩, tA ⟨c, d⟩] []).run = bif ((right ⟨a, b⟩).m &&& ~~~(right ⟨c, d⟩).m == BitVec.ofInt 64 0) then some (bA ((right ⟨a, b⟩).v &&& ~~~(right ⟨c, d⟩).m == (right ⟨c, d⟩).v), []) else some (bA false, []) := by kernel_rfl
  rw [e]
  simp only [inn, inn']
  cases ((right ⟨a, b⟩).m &&& ~~~(right ⟨c, d⟩).m == BitVec.ofInt 64 0) <;> rfl
theorem ok_inn : SummOk Kn Tryd.prog 47 (sm [] (gTT fun a b => bA (inn a b))) := summ_of tok_has Tryd.checked.mixed Tryd.func47 (by kernel_rfl) (by rfl) 20 (fun args H v H' h => by
  obtain ⟨a, b, c, d, rfl, rfl, rfl, rfl⟩ := gTT_inv h; exact ev_inn a b c d)
def L_inn : List (Nat × Summ) := (47, (sm [] (gTT fun a b => bA (inn a b)))) :: L_has
theorem tok_inn : TOk Kn Tryd.prog (lk L_inn) := lk_cons ok_inn tok_has

theorem ev_least (a b : BitVec 64) : (evalFn Tryd.prog (lk L_inn) 20 Tryd.f97 (Tryd.f97.body.getD .skip) [tA ⟨a, b⟩] []).run = some ((fun a => uA (least a)) ⟨a, b⟩, []) := by
  kernel_rfl
theorem ok_least : SummOk Kn Tryd.prog 97 (sm [] (gT fun a => uA (least a))) := summ_of tok_inn Tryd.checked.mixed Tryd.func97 (by kernel_rfl) (by rfl) 20 (fun args H v H' h => by
  obtain ⟨a, b, rfl, rfl, rfl, rfl⟩ := gT_inv h; exact ev_least a b)
def L_least : List (Nat × Summ) := (97, (sm [] (gT fun a => uA (least a)))) :: L_inn
theorem tok_least : TOk Kn Tryd.prog (lk L_least) := lk_cons ok_least tok_inn

theorem ev_most (a b : BitVec 64) : (evalFn Tryd.prog (lk L_least) 20 Tryd.f98 (Tryd.f98.body.getD .skip) [tA ⟨a, b⟩] []).run = some ((fun a => uA (most a)) ⟨a, b⟩, []) := by
  kernel_rfl
theorem ok_most : SummOk Kn Tryd.prog 98 (sm [] (gT fun a => uA (most a))) := summ_of tok_least Tryd.checked.mixed Tryd.func98 (by kernel_rfl) (by rfl) 20 (fun args H v H' h => by
  obtain ⟨a, b, rfl, rfl, rfl, rfl⟩ := gT_inv h; exact ev_most a b)
def L_most : List (Nat × Summ) := (98, (sm [] (gT fun a => uA (most a)))) :: L_least
theorem tok_most : TOk Kn Tryd.prog (lk L_most) := lk_cons ok_most tok_least

theorem ev_low (a b : BitVec 64) : (evalFn Tryd.prog (lk L_most) 20 Tryd.f61 (Tryd.f61.body.getD .skip) [tA ⟨a, b⟩] []).run = some ((fun a => tA (low a)) ⟨a, b⟩, []) := by
  kernel_rfl
theorem ok_low : SummOk Kn Tryd.prog 61 (sm [] (gT fun a => tA (low a))) := summ_of tok_most Tryd.checked.mixed Tryd.func61 (by kernel_rfl) (by rfl) 20 (fun args H v H' h => by
  obtain ⟨a, b, rfl, rfl, rfl, rfl⟩ := gT_inv h; exact ev_low a b)
def L_low : List (Nat × Summ) := (61, (sm [] (gT fun a => tA (low a)))) :: L_most
theorem tok_low : TOk Kn Tryd.prog (lk L_low) := lk_cons ok_low tok_most

theorem ev_meet (a b c d : BitVec 64) : (evalFn Tryd.prog (lk L_low) 20 Tryd.f73 (Tryd.f73.body.getD .skip) [tA ⟨a, b⟩, tA ⟨c, d⟩] []).run = some ((fun a b => tbA (meet a b) (meetOk a b)) ⟨a, b⟩ ⟨c, d⟩, []) := by
  have e : (evalFn Tryd.prog (lk L_low) 20 Tryd.f73 (Tryd.f73.body.getD .skip) [tA ⟨a, b⟩, tA ⟨c, d⟩] []).run = bif ((right ⟨a, b⟩).v &&& ~~~((right ⟨a, b⟩).m ||| (right ⟨c, d⟩).m) != (right ⟨c, d⟩).v &&& ~~~((right ⟨a, b⟩).m ||| (right ⟨c, d⟩).m)) then some (tbA ⟨BitVec.ofInt 64 0, BitVec.ofInt 64 0⟩ false, []) else some (tbA ⟨(right ⟨a, b⟩).v ||| (right ⟨c, d⟩).v, (right ⟨a, b⟩).m &&& (right ⟨c, d⟩).m⟩ true, []) := by kernel_rfl
  rw [e]
  simp only [meet, meet', meetOk, meetB]
  cases ((right ⟨a, b⟩).v &&& ~~~((right ⟨a, b⟩).m ||| (right ⟨c, d⟩).m) != (right ⟨c, d⟩).v &&& ~~~((right ⟨a, b⟩).m ||| (right ⟨c, d⟩).m)) <;> rfl
theorem ok_meet : SummOk Kn Tryd.prog 73 (sm [] (gTT fun a b => tbA (meet a b) (meetOk a b))) := summ_of tok_low Tryd.checked.mixed Tryd.func73 (by kernel_rfl) (by rfl) 20 (fun args H v H' h => by
  obtain ⟨a, b, c, d, rfl, rfl, rfl, rfl⟩ := gTT_inv h; exact ev_meet a b c d)
def L_meet : List (Nat × Summ) := (73, (sm [] (gTT fun a b => tbA (meet a b) (meetOk a b)))) :: L_low
theorem tok_meet : TOk Kn Tryd.prog (lk L_meet) := lk_cons ok_meet tok_low

theorem ev_join (a b c d : BitVec 64) : (evalFn Tryd.prog (lk L_meet) 20 Tryd.f46 (Tryd.f46.body.getD .skip) [tA ⟨a, b⟩, tA ⟨c, d⟩] []).run = some ((fun a b => tA (join a b)) ⟨a, b⟩ ⟨c, d⟩, []) := by
  have e : (evalFn Tryd.prog (lk L_meet) 20 Tryd.f46 (Tryd.f46.body.getD .skip) [tA ⟨a, b⟩, tA ⟨c, d⟩] []).run = bif eqT (right ⟨a, b⟩) (right ⟨c, d⟩) then some (tA (right ⟨a, b⟩), []) else some (tA (of (right ⟨a, b⟩).v ((right ⟨a, b⟩).m ||| (right ⟨c, d⟩).m ||| ((right ⟨a, b⟩).v ^^^ (right ⟨c, d⟩).v))), []) := by kernel_rfl
  rw [e]
  simp only [join, join']
  cases eqT (right ⟨a, b⟩) (right ⟨c, d⟩) <;> rfl
theorem ok_join : SummOk Kn Tryd.prog 46 (sm [] (gTT fun a b => tA (join a b))) := summ_of tok_meet Tryd.checked.mixed Tryd.func46 (by kernel_rfl) (by rfl) 20 (fun args H v H' h => by
  obtain ⟨a, b, c, d, rfl, rfl, rfl, rfl⟩ := gTT_inv h; exact ev_join a b c d)
def L_join : List (Nat × Summ) := (46, (sm [] (gTT fun a b => tA (join a b)))) :: L_meet
theorem tok_join : TOk Kn Tryd.prog (lk L_join) := lk_cons ok_join tok_meet

theorem ev_add (a b c d : BitVec 64) : (evalFn Tryd.prog (lk L_join) 20 Tryd.f62 (Tryd.f62.body.getD .skip) [tA ⟨a, b⟩, tA ⟨c, d⟩] []).run = some ((fun a b => tA (add a b)) ⟨a, b⟩ ⟨c, d⟩, []) := by
  kernel_rfl
theorem ok_add : SummOk Kn Tryd.prog 62 (sm [] (gTT fun a b => tA (add a b))) := summ_of tok_join Tryd.checked.mixed Tryd.func62 (by kernel_rfl) (by rfl) 20 (fun args H v H' h => by
  obtain ⟨a, b, c, d, rfl, rfl, rfl, rfl⟩ := gTT_inv h; exact ev_add a b c d)
def L_add : List (Nat × Summ) := (62, (sm [] (gTT fun a b => tA (add a b)))) :: L_join
theorem tok_add : TOk Kn Tryd.prog (lk L_add) := lk_cons ok_add tok_join

theorem ev_sub (a b c d : BitVec 64) : (evalFn Tryd.prog (lk L_add) 20 Tryd.f64 (Tryd.f64.body.getD .skip) [tA ⟨a, b⟩, tA ⟨c, d⟩] []).run = some ((fun a b => tA (sub a b)) ⟨a, b⟩ ⟨c, d⟩, []) := by
  kernel_rfl
theorem ok_sub : SummOk Kn Tryd.prog 64 (sm [] (gTT fun a b => tA (sub a b))) := summ_of tok_add Tryd.checked.mixed Tryd.func64 (by kernel_rfl) (by rfl) 20 (fun args H v H' h => by
  obtain ⟨a, b, c, d, rfl, rfl, rfl, rfl⟩ := gTT_inv h; exact ev_sub a b c d)
def L_sub : List (Nat × Summ) := (64, (sm [] (gTT fun a b => tA (sub a b)))) :: L_add
theorem tok_sub : TOk Kn Tryd.prog (lk L_sub) := lk_cons ok_sub tok_add

theorem ev_pand (a b c d : BitVec 64) : (evalFn Tryd.prog (lk L_sub) 20 Tryd.f93 (Tryd.f93.body.getD .skip) [pA ⟨a, b⟩ ⟨c, d⟩] []).run = some ((fun a b => tA (and' a b)) ⟨a, b⟩ ⟨c, d⟩, []) := by
  kernel_rfl
theorem ok_pand : SummOk Kn Tryd.prog 93 (sm [] (gP fun a b => tA (and' a b))) := summ_of tok_sub Tryd.checked.mixed Tryd.func93 (by kernel_rfl) (by rfl) 20 (fun args H v H' h => by
  obtain ⟨a, b, c, d, rfl, rfl, rfl, rfl⟩ := gP_inv h; exact ev_pand a b c d)
def L_pand : List (Nat × Summ) := (93, (sm [] (gP fun a b => tA (and' a b)))) :: L_sub
theorem tok_pand : TOk Kn Tryd.prog (lk L_pand) := lk_cons ok_pand tok_sub

theorem ev_por (a b c d : BitVec 64) : (evalFn Tryd.prog (lk L_pand) 20 Tryd.f94 (Tryd.f94.body.getD .skip) [pA ⟨a, b⟩ ⟨c, d⟩] []).run = some ((fun a b => tA (or' a b)) ⟨a, b⟩ ⟨c, d⟩, []) := by
  kernel_rfl
theorem ok_por : SummOk Kn Tryd.prog 94 (sm [] (gP fun a b => tA (or' a b))) := summ_of tok_pand Tryd.checked.mixed Tryd.func94 (by kernel_rfl) (by rfl) 20 (fun args H v H' h => by
  obtain ⟨a, b, c, d, rfl, rfl, rfl, rfl⟩ := gP_inv h; exact ev_por a b c d)
def L_por : List (Nat × Summ) := (94, (sm [] (gP fun a b => tA (or' a b)))) :: L_pand
theorem tok_por : TOk Kn Tryd.prog (lk L_por) := lk_cons ok_por tok_pand

theorem ev_pxor (a b c d : BitVec 64) : (evalFn Tryd.prog (lk L_por) 20 Tryd.f95 (Tryd.f95.body.getD .skip) [pA ⟨a, b⟩ ⟨c, d⟩] []).run = some ((fun a b => tA (xor' a b)) ⟨a, b⟩ ⟨c, d⟩, []) := by
  kernel_rfl
theorem ok_pxor : SummOk Kn Tryd.prog 95 (sm [] (gP fun a b => tA (xor' a b))) := summ_of tok_por Tryd.checked.mixed Tryd.func95 (by kernel_rfl) (by rfl) 20 (fun args H v H' h => by
  obtain ⟨a, b, c, d, rfl, rfl, rfl, rfl⟩ := gP_inv h; exact ev_pxor a b c d)
def L_pxor : List (Nat × Summ) := (95, (sm [] (gP fun a b => tA (xor' a b)))) :: L_por
theorem tok_pxor : TOk Kn Tryd.prog (lk L_pxor) := lk_cons ok_pxor tok_por

def gOf : G
  | [.p (.one (.clo 93 [])), .p (.many [.w .u64 a, .w .u64 b]), .p (.many [.w .u64 c, .w .u64 d])], [] => some (tA (and ⟨a, b⟩ ⟨c, d⟩), [])
  | [.p (.one (.clo 94 [])), .p (.many [.w .u64 a, .w .u64 b]), .p (.many [.w .u64 c, .w .u64 d])], [] => some (tA (or ⟨a, b⟩ ⟨c, d⟩), [])
  | [.p (.one (.clo 95 [])), .p (.many [.w .u64 a, .w .u64 b]), .p (.many [.w .u64 c, .w .u64 d])], [] => some (tA (xor ⟨a, b⟩ ⟨c, d⟩), [])
  | _, _ => none
theorem ev_of_and (a b c d : BitVec 64) : (evalFn Tryd.prog (lk L_pxor) 20 Tryd.f92 (Tryd.f92.body.getD .skip) [.p (.one (.clo 93 [])), tA ⟨a, b⟩, tA ⟨c, d⟩] []).run = some (tA (and ⟨a, b⟩ ⟨c, d⟩), []) := by
  kernel_rfl
theorem ev_of_or (a b c d : BitVec 64) : (evalFn Tryd.prog (lk L_pxor) 20 Tryd.f92 (Tryd.f92.body.getD .skip) [.p (.one (.clo 94 [])), tA ⟨a, b⟩, tA ⟨c, d⟩] []).run = some (tA (or ⟨a, b⟩ ⟨c, d⟩), []) := by
  kernel_rfl
theorem ev_of_xor (a b c d : BitVec 64) : (evalFn Tryd.prog (lk L_pxor) 20 Tryd.f92 (Tryd.f92.body.getD .skip) [.p (.one (.clo 95 [])), tA ⟨a, b⟩, tA ⟨c, d⟩] []).run = some (tA (xor ⟨a, b⟩ ⟨c, d⟩), []) := by
  kernel_rfl
theorem ok_of : SummOk Kn Tryd.prog 92 (sm [] (gOf)) := summ_of tok_pxor Tryd.checked.mixed Tryd.func92 (by kernel_rfl) (by rfl) 20 (fun args H v H' h => by
  simp only [gOf] at h
  split at h
  · cases h; exact ev_of_and _ _ _ _
  · cases h; exact ev_of_or _ _ _ _
  · cases h; exact ev_of_xor _ _ _ _
  · cases h)
def L_of : List (Nat × Summ) := (92, (sm [] (gOf))) :: L_pxor
theorem tok_of : TOk Kn Tryd.prog (lk L_of) := lk_cons ok_of tok_pxor

theorem ev_and (a b c d : BitVec 64) : (evalFn Tryd.prog (lk L_of) 20 Tryd.f68 (Tryd.f68.body.getD .skip) [tA ⟨a, b⟩, tA ⟨c, d⟩] []).run = some ((fun a b => tA (and a b)) ⟨a, b⟩ ⟨c, d⟩, []) := by
  kernel_rfl
theorem ok_and : SummOk Kn Tryd.prog 68 (sm [] (gTT fun a b => tA (and a b))) := summ_of tok_of Tryd.checked.mixed Tryd.func68 (by kernel_rfl) (by rfl) 20 (fun args H v H' h => by
  obtain ⟨a, b, c, d, rfl, rfl, rfl, rfl⟩ := gTT_inv h; exact ev_and a b c d)
def L_and : List (Nat × Summ) := (68, (sm [] (gTT fun a b => tA (and a b)))) :: L_of
theorem tok_and : TOk Kn Tryd.prog (lk L_and) := lk_cons ok_and tok_of

theorem ev_or (a b c d : BitVec 64) : (evalFn Tryd.prog (lk L_and) 20 Tryd.f69 (Tryd.f69.body.getD .skip) [tA ⟨a, b⟩, tA ⟨c, d⟩] []).run = some ((fun a b => tA (or a b)) ⟨a, b⟩ ⟨c, d⟩, []) := by
  kernel_rfl
theorem ok_or : SummOk Kn Tryd.prog 69 (sm [] (gTT fun a b => tA (or a b))) := summ_of tok_and Tryd.checked.mixed Tryd.func69 (by kernel_rfl) (by rfl) 20 (fun args H v H' h => by
  obtain ⟨a, b, c, d, rfl, rfl, rfl, rfl⟩ := gTT_inv h; exact ev_or a b c d)
def L_or : List (Nat × Summ) := (69, (sm [] (gTT fun a b => tA (or a b)))) :: L_and
theorem tok_or : TOk Kn Tryd.prog (lk L_or) := lk_cons ok_or tok_and

theorem ev_xor (a b c d : BitVec 64) : (evalFn Tryd.prog (lk L_or) 20 Tryd.f70 (Tryd.f70.body.getD .skip) [tA ⟨a, b⟩, tA ⟨c, d⟩] []).run = some ((fun a b => tA (xor a b)) ⟨a, b⟩ ⟨c, d⟩, []) := by
  kernel_rfl
theorem ok_xor : SummOk Kn Tryd.prog 70 (sm [] (gTT fun a b => tA (xor a b))) := summ_of tok_or Tryd.checked.mixed Tryd.func70 (by kernel_rfl) (by rfl) 20 (fun args H v H' h => by
  obtain ⟨a, b, c, d, rfl, rfl, rfl, rfl⟩ := gTT_inv h; exact ev_xor a b c d)
def L_xor : List (Nat × Summ) := (70, (sm [] (gTT fun a b => tA (xor a b)))) :: L_or
theorem tok_xor : TOk Kn Tryd.prog (lk L_xor) := lk_cons ok_xor tok_or

theorem ev_times (n m : Int) (hm : m ≠ 0) : (evalFn Tryd.prog (lk L_xor) 20 Tryd.f96 (Tryd.f96.body.getD .skip) [iA n, iA m] []).run = some (iA (times n m), []) := by
  have e : (evalFn Tryd.prog (lk L_xor) 20 Tryd.f96 (Tryd.f96.body.getD .skip) [iA n, iA m] []).run = bif decide (m = 0) then none else bif decide (m = 0) then none else some (iA (times n m), []) := by kernel_rfl
  rw [e]
  simp [hm]
theorem ok_times : SummOk Kn Tryd.prog 96 (sm [] (gII fun n m => iA (times n m))) := summ_of tok_xor Tryd.checked.mixed Tryd.func96 (by kernel_rfl) (by rfl) 20 (fun args H v H' h => by
  obtain ⟨n, m, rfl, rfl, rfl, rfl, hm⟩ := gII_inv h; exact ev_times n m hm)
def L_times : List (Nat × Summ) := (96, (sm [] (gII fun n m => iA (times n m)))) :: L_xor
theorem tok_times : TOk Kn Tryd.prog (lk L_times) := lk_cons ok_times tok_xor

theorem ev_lsh (a b : BitVec 64) (n : Int) : (evalFn Tryd.prog (lk L_times) 20 Tryd.f90 (Tryd.f90.body.getD .skip) [tA ⟨a, b⟩, iA n] []).run = some ((fun a n => tA (lsh a n)) ⟨a, b⟩ n, []) := by
  have e : (evalFn Tryd.prog (lk L_times) 20 Tryd.f90 (Tryd.f90.body.getD .skip) [tA ⟨a, b⟩, iA n] []).run = bif decide (times n 64 < 0) then none else bif decide (times n 64 < 0) then none else some (tA (lsh ⟨a, b⟩ n), []) := by kernel_rfl
  rw [e]
  simp only [times_neg (n := n) (m := 64) (by decide) (by decide), cond_false]
theorem ok_lsh : SummOk Kn Tryd.prog 90 (sm [] (gTI fun a n => tA (lsh a n))) := summ_of tok_times Tryd.checked.mixed Tryd.func90 (by kernel_rfl) (by rfl) 20 (fun args H v H' h => by
  obtain ⟨a, b, n, rfl, rfl, rfl, rfl⟩ := gTI_inv h; exact ev_lsh a b n)
def L_lsh : List (Nat × Summ) := (90, (sm [] (gTI fun a n => tA (lsh a n)))) :: L_times
theorem tok_lsh : TOk Kn Tryd.prog (lk L_lsh) := lk_cons ok_lsh tok_times

theorem ev_rsh (a b : BitVec 64) (n : Int) : (evalFn Tryd.prog (lk L_lsh) 20 Tryd.f89 (Tryd.f89.body.getD .skip) [tA ⟨a, b⟩, iA n] []).run = some ((fun a n => tA (rsh a n)) ⟨a, b⟩ n, []) := by
  have e : (evalFn Tryd.prog (lk L_lsh) 20 Tryd.f89 (Tryd.f89.body.getD .skip) [tA ⟨a, b⟩, iA n] []).run = bif decide (times n 64 < 0) then none else bif decide (times n 64 < 0) then none else some (tA (rsh ⟨a, b⟩ n), []) := by kernel_rfl
  rw [e]
  simp only [times_neg (n := n) (m := 64) (by decide) (by decide), cond_false]
theorem ok_rsh : SummOk Kn Tryd.prog 89 (sm [] (gTI fun a n => tA (rsh a n))) := summ_of tok_lsh Tryd.checked.mixed Tryd.func89 (by kernel_rfl) (by rfl) 20 (fun args H v H' h => by
  obtain ⟨a, b, n, rfl, rfl, rfl, rfl⟩ := gTI_inv h; exact ev_rsh a b n)
def L_rsh : List (Nat × Summ) := (89, (sm [] (gTI fun a n => tA (rsh a n)))) :: L_lsh
theorem tok_rsh : TOk Kn Tryd.prog (lk L_rsh) := lk_cons ok_rsh tok_lsh

theorem ev_arsh (a b : BitVec 64) (n : Int) (w : Bool) : (evalFn Tryd.prog (lk L_rsh) 20 Tryd.f72 (Tryd.f72.body.getD .skip) [tA ⟨a, b⟩, iA n, bA w] []).run = some ((fun a n w => tA (arsh a n w)) ⟨a, b⟩ n w, []) := by
  have e : (evalFn Tryd.prog (lk L_rsh) 20 Tryd.f72 (Tryd.f72.body.getD .skip) [tA ⟨a, b⟩, iA n, bA w] []).run = bif w then bif decide (times n 64 < 0) then none else bif decide (times n 64 < 0) then none else some (tA (arsh ⟨a, b⟩ n true), []) else bif decide (times n 32 < 0) then none else bif decide (times n 32 < 0) then none else some (tA (arsh ⟨a, b⟩ n false), []) := by kernel_rfl
  rw [e]
  simp only [times_neg (n := n) (m := 64) (by decide) (by decide), times_neg (n := n) (m := 32) (by decide) (by decide), cond_false]
  cases w <;> rfl
theorem ok_arsh : SummOk Kn Tryd.prog 72 (sm [] (gTIB fun a n w => tA (arsh a n w))) := summ_of tok_rsh Tryd.checked.mixed Tryd.func72 (by kernel_rfl) (by rfl) 20 (fun args H v H' h => by
  obtain ⟨a, b, n, w, rfl, rfl, rfl, rfl⟩ := gTIB_inv h; exact ev_arsh a b n w)
def L_arsh : List (Nat × Summ) := (72, (sm [] (gTIB fun a n w => tA (arsh a n w)))) :: L_rsh
theorem tok_arsh : TOk Kn Tryd.prog (lk L_arsh) := lk_cons ok_arsh tok_rsh

theorem ok_len64 : SummOk Kn Tryd.prog 101 (sm [] (gU fun x => iA (len64 x))) := summ_of_same ⟨Tryd.f101, Tryd.func101, (by kernel_rfl), (by kernel_rfl)⟩ (fun args H v H' h => by
  obtain ⟨x, rfl, rfl, rfl, rfl⟩ := gU_inv h
  refine ⟨rfl, rfl, trivial, fun r w _ => ?_⟩
  have := Tryd.bits_Len64 (x.toNat : Int) w (by omega) (by have := x.isLt; omega)
  rw [Int.toNat_natCast] at this
  exact this)
def L_len64 : List (Nat × Summ) := (101, (sm [] (gU fun x => iA (len64 x)))) :: L_arsh
theorem tok_len64 : TOk Kn Tryd.prog (lk L_len64) := lk_cons ok_len64 tok_arsh

theorem ev_range (a b : BitVec 64) : (evalFn Tryd.prog (lk L_len64) 20 Tryd.f99 (Tryd.f99.body.getD .skip) [uA a, uA b] []).run = some ((fun a b => tA (range a b)) a b, []) := by
  have e : (evalFn Tryd.prog (lk L_len64) 20 Tryd.f99 (Tryd.f99.body.getD .skip) [uA a, uA b] []).run = bif BitVec.ult b a then some (tA unknown, []) else bif decide (len64 (a ^^^ b) < 0) then none else some (tA (of a ((BitVec.ofInt 64 1 <<< (len64 (a ^^^ b)).toNat) - BitVec.ofInt 64 1)), []) := by kernel_rfl
  rw [e]
  have h1 : 0 ≤ len64 (a ^^^ b) := Int.natCast_nonneg _
  have h0 : decide (len64 (a ^^^ b) < 0) = false := decide_eq_false (by omega)
  rw [h0]
  simp only [range]
  cases BitVec.ult b a <;> rfl
theorem ok_range : SummOk Kn Tryd.prog 99 (sm [] (gUU fun a b => tA (range a b))) := summ_of tok_len64 Tryd.checked.mixed Tryd.func99 (by kernel_rfl) (by rfl) 20 (fun args H v H' h => by
  obtain ⟨a, b, rfl, rfl, rfl, rfl⟩ := gUU_inv h; exact ev_range a b)
def L_range : List (Nat × Summ) := (99, (sm [] (gUU fun a b => tA (range a b)))) :: L_len64
theorem tok_range : TOk Kn Tryd.prog (lk L_range) := lk_cons ok_range tok_len64

theorem ok_tz64 : SummOk Kn Tryd.prog 100 (sm [] (gU fun x => iA (ctz64 x))) := summ_of_same ⟨Tryd.f100, Tryd.func100, (by kernel_rfl), (by kernel_rfl)⟩ (fun args H v H' h => by
  obtain ⟨x, rfl, rfl, rfl, rfl⟩ := gU_inv h
  exact ⟨rfl, rfl, trivial, fun r w hk => Tryd.bits_TrailingZeros64 x.toNat x.isLt w fun _ => hk⟩)
def L_tz64 : List (Nat × Summ) := (100, (sm [] (gU fun x => iA (ctz64 x)))) :: L_range
theorem tok_tz64 : TOk Kn Tryd.prog (lk L_tz64) := lk_cons ok_tz64 tok_range

theorem ev_noughts (a b : BitVec 64) : (evalFn Tryd.prog (lk L_tz64) 20 Tryd.f88 (Tryd.f88.body.getD .skip) [tA ⟨a, b⟩] []).run = some ((fun a => iA (noughts a)) ⟨a, b⟩, []) := by
  kernel_rfl
theorem ok_noughts : SummOk Kn Tryd.prog 88 (sm [] (gT fun a => iA (noughts a))) := summ_of tok_tz64 Tryd.checked.mixed Tryd.func88 (by kernel_rfl) (by rfl) 20 (fun args H v H' h => by
  obtain ⟨a, b, rfl, rfl, rfl, rfl⟩ := gT_inv h; exact ev_noughts a b)
def L_noughts : List (Nat × Summ) := (88, (sm [] (gT fun a => iA (noughts a)))) :: L_tz64
theorem tok_noughts : TOk Kn Tryd.prog (lk L_noughts) := lk_cons ok_noughts tok_tz64

def L_known : List (Nat × Summ) := L_noughts
theorem tok_known : TOk Kn Tryd.prog (lk L_known) := tok_noughts
end Go.Proofs.YtlllbgcfhfgaeaaDoor
