/-
  ScalarDoes: what an operation, a turning of bytes, a meeting and a joining do to the numbers, they do to what is known of them; no condition but that the table math/bits.deBruijn64tab holds what its initialiser lays.
-/
import Derived.Test.YtlaaljiffcablaaGreatDoorScZ
import Derived.Test.YtlaaljiffcablaaGreatDoorScY
import Derived.Test.YtlaaljiffcablaaGreatDoorLaid
import Derived.Test.YtlaaljiffcablaaGreatDoorCards
namespace Go.Proofs.YtlaaljiffcablaaGreatDoor.lScalarDoes
open Go Go.Sy Go.Tn Go.Sc Go.Proofs.YtlaaljiffcablaaGreatDoor
set_option linter.unusedSimpArgs false
set_option linter.unusedVariables false
noncomputable section

set_option maxHeartbeats 2000000
def runF {α β : Type} (f : α → Option β) : Tree α → Option β
  | .ret a => f a
  | .ite c x y => bif c then runF f x else runF f y
  | .fail => none
theorem runF_eq {α β : Type} (f : α → Option β) (t : Tree α) : t.run.bind f = runF f t := by
  induction t with
  | ret a => rfl
  | ite c x y h1 h2 => cases c <;> simp [Tree.run, runF, h1, h2]
  | fail => rfl
namespace rg1
def path : List Nat := [0, 1, 1]
def K : List Nat := [0, 1, 4, 5, 6, 7, 8, 11, 12]
def K2 : List Nat := [0, 1, 4, 5, 6, 7, 8, 11, 12, 19, 20]
def orc : St → Option (Ex × St)
  | ⟨[(0, .p (.one (.v (.int .i64 op)))), (1, .p (.one (.v (.bool w)))), (4, .p (.one (.v (.int .i64 i)))), (5, .p (.one (.v (.int .i64 j)))), (6, .p (.one (.v (.int .i64 to)))), (7, .p (.one (.v (.bool big)))), (8, .p (.one (.v (.bool tr)))), (11, .p (.one (.p 0 0))), (12, .p (.one (.p 1 0)))], [[.w .u64 a, .w .u64 b, .w .u64 c, .w .u64 d], [.w .u64 e, .w .u64 f, .w .u64 g, .w .u64 h]]⟩ => some (.normal, ⟨[(0, .p (.one (.v (.int .i64 op)))), (1, .p (.one (.v (.bool w)))), (4, .p (.one (.v (.int .i64 i)))), (5, .p (.one (.v (.int .i64 j)))), (6, .p (.one (.v (.int .i64 to)))), (7, .p (.one (.v (.bool big)))), (8, .p (.one (.v (.bool tr)))), (11, .p (.one (.p 0 0))), (12, .p (.one (.p 1 0))), (19, .p (.one (.p 2 0))), (20, .p (.one (.p 3 0)))], [[.w .u64 a, .w .u64 b, .w .u64 c, .w .u64 d], [.w .u64 e, .w .u64 f, .w .u64 g, .w .u64 h], (sC (mk4 a b c d)), (sC (mk4 e f g h))]⟩)
  | _ => none
theorem reg (op i j to : Int) (w big tr : Bool) (a b c d e f g h : BitVec 64) : (drawL Tryz.prog (lk ((16, (sm [] (hSS fun a b => bA (Sc.inn a b)))) :: (15, (sm [] (hSS fun a b => sA (Sc.join a b)))) :: (14, (sm [] (hSS fun a b => sbA (meetF a b) (meetB a b)))) :: (13, (sm [] (hIBBS fun n b t a => sA (sswap n b t a)))) :: (12, (sm [] (hIU fun n a => ubA (turnV n a) (turnOk n)))) :: (11, (sm [] (hIBU fun n b a => ubA (swapV n b a) (turnOk n)))) :: (10, (sm [] (g0 (sA all)))) :: (9, (sm [] (hIBSS fun op w a b => sA (doS op w a b)))) :: (8, (sm [] (hIBUU fun op w x y => ubA (Sc.alu op w x y) (opOk op)))) :: (6, (sm [] (hS fun k => bA (is k)))) :: (7, (sm [] (hSU fun k n => bA (Sc.has k n)))) :: (5, (sm [] (hL4 fun a b c d => sA (mk4 a b c d)))) :: L_sswap)) Tryz.f3.ntmps (opsAt (codeOf Tryz.f3) path) (opsAt (codeOf Tryz.f3) path).size (Array.replicate (opsAt (codeOf Tryz.f3) path).size false) [] ⟨[(0, .p (.one (.v (.int .i64 op)))), (1, .p (.one (.v (.bool w)))), (4, .p (.one (.v (.int .i64 i)))), (5, .p (.one (.v (.int .i64 j)))), (6, .p (.one (.v (.int .i64 to)))), (7, .p (.one (.v (.bool big)))), (8, .p (.one (.v (.bool tr)))), (11, .p (.one (.p 0 0))), (12, .p (.one (.p 1 0)))], [[.w .u64 a, .w .u64 b, .w .u64 c, .w .u64 d], [.w .u64 e, .w .u64 f, .w .u64 g, .w .u64 h]]⟩).run.bind (permAll 2 K2 [[], [0, 1, 3, 2], [], [], [0, 1, 3, 2], [0, 1, 3, 2], [], [], [], [0, 1, 3, 2], [0, 1, 3, 2], [0, 1, 3, 2]]) = some (List.replicate 12 ⟨[(0, .p (.one (.v (.int .i64 op)))), (1, .p (.one (.v (.bool w)))), (4, .p (.one (.v (.int .i64 i)))), (5, .p (.one (.v (.int .i64 j)))), (6, .p (.one (.v (.int .i64 to)))), (7, .p (.one (.v (.bool big)))), (8, .p (.one (.v (.bool tr)))), (11, .p (.one (.p 0 0))), (12, .p (.one (.p 1 0))), (19, .p (.one (.p 2 0))), (20, .p (.one (.p 3 0)))], [[.w .u64 a, .w .u64 b, .w .u64 c, .w .u64 d], [.w .u64 e, .w .u64 f, .w .u64 g, .w .u64 h], (sC (mk4 a b c d)), (sC (mk4 e f g h))]⟩) := by kernel_rfl
end rg1
theorem times4 (i : Int) : times i 4 = 0 ∨ times i 4 = 1 ∨ times i 4 = 2 ∨ times i 4 = 3 := by
  unfold times
  have h1 := Int.tmod_lt_of_pos i (by omega : (0 : Int) < 4)
  have h2 : -4 < i.tmod 4 := Int.lt_tmod_of_pos i (by omega)
  rw [wrap_i64_small (by omega) (by omega)]
  have h3 : 0 ≤ (i.tmod 4 + 4).tmod 4 := Int.tmod_nonneg 4 (by omega)
  have h4 := Int.tmod_lt_of_pos (i.tmod 4 + 4) (by omega : (0 : Int) < 4)
  omega
def pk4 (k : Int) (a b c d : BitVec 64) : BitVec 64 := bif decide (k = 0) then a else bif decide (k = 1) then b else bif decide (k = 2) then c else d
def f9 (d : Sc) (v : BitVec 64) (o : Bool) : Bool := bif is d then (bif o then !Sc.has d v else !eqS d all) else true
def f15 (e : Sc) (v : BitVec 64) (o : Bool) (to : Int) : Bool := bif is e then (bif o then (bif Sc.has e v then (bif decide (to < 64) then BitVec.ule (BitVec.ofInt 64 1 <<< to.toNat) e.U else false) else true) else false) else true
theorem neg_of (k : Nat) : decide (Int.ofNat k < 0) = false := decide_eq_false (by have : (0 : Int) ≤ Int.ofNat k := Int.natCast_nonneg k; omega)
def gate (t : Int) (o : Bool) (y : Ex × St) : Option (Ex × St) := match t with
  | .ofNat _ => some y
  | .negSucc _ => bif o then none else some y
theorem gate_some {t : Int} {o : Bool} {y z : Ex × St} (h : gate t o y = some z) : (o = true → decide (t < 0) = false) ∧ y = z := by
  cases t with
  | ofNat k => exact ⟨fun _ => neg_of k, Option.some.inj (show some y = some z from h)⟩
  | negSucc k =>
    cases o with
    | false => exact ⟨(fun h => by cases h), Option.some.inj (show some y = some z from h)⟩
    | true => cases h
namespace rg2
def path : List Nat := [0, 1, 1, 1]
def K : List Nat := [0, 1, 4, 5, 6, 7, 8, 11, 12, 19, 20]
def K2 : List Nat := [0, 1, 6, 7, 8, 19, 20, 21, 22]
noncomputable def orc : St → Option (Ex × St)
  | ⟨[(0, .p (.one (.v (.int .i64 op)))), (1, .p (.one (.v (.bool w)))), (4, .p (.one (.v (.int .i64 i)))), (5, .p (.one (.v (.int .i64 j)))), (6, .p (.one (.v (.int .i64 to)))), (7, .p (.one (.v (.bool big)))), (8, .p (.one (.v (.bool tr)))), (11, .p (.one (.p 0 0))), (12, .p (.one (.p 1 0))), (19, .p (.one (.p 2 0))), (20, .p (.one (.p 3 0)))], [[.w .u64 p1, .w .u64 p2, .w .u64 p3, .w .u64 p4], [.w .u64 q1, .w .u64 q2, .w .u64 q3, .w .u64 q4], m3, m4]⟩ => some (.normal, ⟨[(0, .p (.one (.v (.int .i64 op)))), (1, .p (.one (.v (.bool w)))), (6, .p (.one (.v (.int .i64 to)))), (7, .p (.one (.v (.bool big)))), (8, .p (.one (.v (.bool tr)))), (19, .p (.one (.p 2 0))), (20, .p (.one (.p 3 0))), (21, .p (.one (.w .u64 (pk4 (times i 4) p1 p2 p3 p4)))), (22, .p (.one (.w .u64 (pk4 (times j 4) q1 q2 q3 q4))))], [[.w .u64 p1, .w .u64 p2, .w .u64 p3, .w .u64 p4], [.w .u64 q1, .w .u64 q2, .w .u64 q3, .w .u64 q4], m3, m4]⟩)
  | _ => none
theorem evReg (op i j to : Int) (w big tr : Bool) (p1 p2 p3 p4 q1 q2 q3 q4 : BitVec 64) (m3 m4 : List Cell) : runF (permAll 4 K2 [[]]) (drawL Tryz.prog (lk ((16, (sm [] (hSS fun a b => bA (Sc.inn a b)))) :: (15, (sm [] (hSS fun a b => sA (Sc.join a b)))) :: (14, (sm [] (hSS fun a b => sbA (meetF a b) (meetB a b)))) :: (13, (sm [] (hIBBS fun n b t a => sA (sswap n b t a)))) :: (12, (sm [] (hIU fun n a => ubA (turnV n a) (turnOk n)))) :: (11, (sm [] (hIBU fun n b a => ubA (swapV n b a) (turnOk n)))) :: (10, (sm [] (g0 (sA all)))) :: (9, (sm [] (hIBSS fun op w a b => sA (doS op w a b)))) :: (8, (sm [] (hIBUU fun op w x y => ubA (Sc.alu op w x y) (opOk op)))) :: (6, (sm [] (hS fun k => bA (is k)))) :: (7, (sm [] (hSU fun k n => bA (Sc.has k n)))) :: (5, (sm [] (hL4 fun a b c d => sA (mk4 a b c d)))) :: L_sswap)) Tryz.f3.ntmps (opsAt (codeOf Tryz.f3) path) (opsAt (codeOf Tryz.f3) path).size (Array.replicate (opsAt (codeOf Tryz.f3) path).size false) [] ⟨[(0, .p (.one (.v (.int .i64 op)))), (1, .p (.one (.v (.bool w)))), (4, .p (.one (.v (.int .i64 i)))), (5, .p (.one (.v (.int .i64 j)))), (6, .p (.one (.v (.int .i64 to)))), (7, .p (.one (.v (.bool big)))), (8, .p (.one (.v (.bool tr)))), (11, .p (.one (.p 0 0))), (12, .p (.one (.p 1 0))), (19, .p (.one (.p 2 0))), (20, .p (.one (.p 3 0)))], [[.w .u64 p1, .w .u64 p2, .w .u64 p3, .w .u64 p4], [.w .u64 q1, .w .u64 q2, .w .u64 q3, .w .u64 q4], m3, m4]⟩) = (bif decide (times i 4 = 0) then (bif decide (times j 4 = 0) then (some [⟨[(0, .p (.one (.v (.int .i64 op)))), (1, .p (.one (.v (.bool w)))), (6, .p (.one (.v (.int .i64 to)))), (7, .p (.one (.v (.bool big)))), (8, .p (.one (.v (.bool tr)))), (19, .p (.one (.p 2 0))), (20, .p (.one (.p 3 0))), (21, .p (.one (.w .u64 p1))), (22, .p (.one (.w .u64 q1)))], [[.w .u64 p1, .w .u64 p2, .w .u64 p3, .w .u64 p4], [.w .u64 q1, .w .u64 q2, .w .u64 q3, .w .u64 q4], m3, m4]⟩]) else (bif decide (times j 4 = 1) then (some [⟨[(0, .p (.one (.v (.int .i64 op)))), (1, .p (.one (.v (.bool w)))), (6, .p (.one (.v (.int .i64 to)))), (7, .p (.one (.v (.bool big)))), (8, .p (.one (.v (.bool tr)))), (19, .p (.one (.p 2 0))), (20, .p (.one (.p 3 0))), (21, .p (.one (.w .u64 p1))), (22, .p (.one (.w .u64 q2)))], [[.w .u64 p1, .w .u64 p2, .w .u64 p3, .w .u64 p4], [.w .u64 q1, .w .u64 q2, .w .u64 q3, .w .u64 q4], m3, m4]⟩]) else (bif decide (times j 4 = 2) then (some [⟨[(0, .p (.one (.v (.int .i64 op)))), (1, .p (.one (.v (.bool w)))), (6, .p (.one (.v (.int .i64 to)))), (7, .p (.one (.v (.bool big)))), (8, .p (.one (.v (.bool tr)))), (19, .p (.one (.p 2 0))), (20, .p (.one (.p 3 0))), (21, .p (.one (.w .u64 p1))), (22, .p (.one (.w .u64 q3)))], [[.w .u64 p1, .w .u64 p2, .w .u64 p3, .w .u64 p4], [.w .u64 q1, .w .u64 q2, .w .u64 q3, .w .u64 q4], m3, m4]⟩]) else (bif decide (times j 4 = 3) then (some [⟨[(0, .p (.one (.v (.int .i64 op)))), (1, .p (.one (.v (.bool w)))), (6, .p (.one (.v (.int .i64 to)))), (7, .p (.one (.v (.bool big)))), (8, .p (.one (.v (.bool tr)))), (19, .p (.one (.p 2 0))), (20, .p (.one (.p 3 0))), (21, .p (.one (.w .u64 p1))), (22, .p (.one (.w .u64 q4)))], [[.w .u64 p1, .w .u64 p2, .w .u64 p3, .w .u64 p4], [.w .u64 q1, .w .u64 q2, .w .u64 q3, .w .u64 q4], m3, m4]⟩]) else none)))) else (bif decide (times i 4 = 1) then (bif decide (times j 4 = 0) then (some [⟨[(0, .p (.one (.v (.int .i64 op)))), (1, .p (.one (.v (.bool w)))), (6, .p (.one (.v (.int .i64 to)))), (7, .p (.one (.v (.bool big)))), (8, .p (.one (.v (.bool tr)))), (19, .p (.one (.p 2 0))), (20, .p (.one (.p 3 0))), (21, .p (.one (.w .u64 p2))), (22, .p (.one (.w .u64 q1)))], [[.w .u64 p1, .w .u64 p2, .w .u64 p3, .w .u64 p4], [.w .u64 q1, .w .u64 q2, .w .u64 q3, .w .u64 q4], m3, m4]⟩]) else (bif decide (times j 4 = 1) then (some [⟨[(0, .p (.one (.v (.int .i64 op)))), (1, .p (.one (.v (.bool w)))), (6, .p (.one (.v (.int .i64 to)))), (7, .p (.one (.v (.bool big)))), (8, .p (.one (.v (.bool tr)))), (19, .p (.one (.p 2 0))), (20, .p (.one (.p 3 0))), (21, .p (.one (.w .u64 p2))), (22, .p (.one (.w .u64 q2)))], [[.w .u64 p1, .w .u64 p2, .w .u64 p3, .w .u64 p4], [.w .u64 q1, .w .u64 q2, .w .u64 q3, .w .u64 q4], m3, m4]⟩]) else (bif decide (times j 4 = 2) then (some [⟨[(0, .p (.one (.v (.int .i64 op)))), (1, .p (.one (.v (.bool w)))), (6, .p (.one (.v (.int .i64 to)))), (7, .p (.one (.v (.bool big)))), (8, .p (.one (.v (.bool tr)))), (19, .p (.one (.p 2 0))), (20, .p (.one (.p 3 0))), (21, .p (.one (.w .u64 p2))), (22, .p (.one (.w .u64 q3)))], [[.w .u64 p1, .w .u64 p2, .w .u64 p3, .w .u64 p4], [.w .u64 q1, .w .u64 q2, .w .u64 q3, .w .u64 q4], m3, m4]⟩]) else (bif decide (times j 4 = 3) then (some [⟨[(0, .p (.one (.v (.int .i64 op)))), (1, .p (.one (.v (.bool w)))), (6, .p (.one (.v (.int .i64 to)))), (7, .p (.one (.v (.bool big)))), (8, .p (.one (.v (.bool tr)))), (19, .p (.one (.p 2 0))), (20, .p (.one (.p 3 0))), (21, .p (.one (.w .u64 p2))), (22, .p (.one (.w .u64 q4)))], [[.w .u64 p1, .w .u64 p2, .w .u64 p3, .w .u64 p4], [.w .u64 q1, .w .u64 q2, .w .u64 q3, .w .u64 q4], m3, m4]⟩]) else none)))) else (bif decide (times i 4 = 2) then (bif decide (times j 4 = 0) then (some [⟨[(0, .p (.one (.v (.int .i64 op)))), (1, .p (.one (.v (.bool w)))), (6, .p (.one (.v (.int .i64 to)))), (7, .p (.one (.v (.bool big)))), (8, .p (.one (.v (.bool tr)))), (19, .p (.one (.p 2 0))), (20, .p (.one (.p 3 0))), (21, .p (.one (.w .u64 p3))), (22, .p (.one (.w .u64 q1)))], [[.w .u64 p1, .w .u64 p2, .w .u64 p3, .w .u64 p4], [.w .u64 q1, .w .u64 q2, .w .u64 q3, .w .u64 q4], m3, m4]⟩]) else (bif decide (times j 4 = 1) then (some [⟨[(0, .p (.one (.v (.int .i64 op)))), (1, .p (.one (.v (.bool w)))), (6, .p (.one (.v (.int .i64 to)))), (7, .p (.one (.v (.bool big)))), (8, .p (.one (.v (.bool tr)))), (19, .p (.one (.p 2 0))), (20, .p (.one (.p 3 0))), (21, .p (.one (.w .u64 p3))), (22, .p (.one (.w .u64 q2)))], [[.w .u64 p1, .w .u64 p2, .w .u64 p3, .w .u64 p4], [.w .u64 q1, .w .u64 q2, .w .u64 q3, .w .u64 q4], m3, m4]⟩]) else (bif decide (times j 4 = 2) then (some [⟨[(0, .p (.one (.v (.int .i64 op)))), (1, .p (.one (.v (.bool w)))), (6, .p (.one (.v (.int .i64 to)))), (7, .p (.one (.v (.bool big)))), (8, .p (.one (.v (.bool tr)))), (19, .p (.one (.p 2 0))), (20, .p (.one (.p 3 0))), (21, .p (.one (.w .u64 p3))), (22, .p (.one (.w .u64 q3)))], [[.w .u64 p1, .w .u64 p2, .w .u64 p3, .w .u64 p4], [.w .u64 q1, .w .u64 q2, .w .u64 q3, .w .u64 q4], m3, m4]⟩]) else (bif decide (times j 4 = 3) then (some [⟨[(0, .p (.one (.v (.int .i64 op)))), (1, .p (.one (.v (.bool w)))), (6, .p (.one (.v (.int .i64 to)))), (7, .p (.one (.v (.bool big)))), (8, .p (.one (.v (.bool tr)))), (19, .p (.one (.p 2 0))), (20, .p (.one (.p 3 0))), (21, .p (.one (.w .u64 p3))), (22, .p (.one (.w .u64 q4)))], [[.w .u64 p1, .w .u64 p2, .w .u64 p3, .w .u64 p4], [.w .u64 q1, .w .u64 q2, .w .u64 q3, .w .u64 q4], m3, m4]⟩]) else none)))) else (bif decide (times i 4 = 3) then (bif decide (times j 4 = 0) then (some [⟨[(0, .p (.one (.v (.int .i64 op)))), (1, .p (.one (.v (.bool w)))), (6, .p (.one (.v (.int .i64 to)))), (7, .p (.one (.v (.bool big)))), (8, .p (.one (.v (.bool tr)))), (19, .p (.one (.p 2 0))), (20, .p (.one (.p 3 0))), (21, .p (.one (.w .u64 p4))), (22, .p (.one (.w .u64 q1)))], [[.w .u64 p1, .w .u64 p2, .w .u64 p3, .w .u64 p4], [.w .u64 q1, .w .u64 q2, .w .u64 q3, .w .u64 q4], m3, m4]⟩]) else (bif decide (times j 4 = 1) then (some [⟨[(0, .p (.one (.v (.int .i64 op)))), (1, .p (.one (.v (.bool w)))), (6, .p (.one (.v (.int .i64 to)))), (7, .p (.one (.v (.bool big)))), (8, .p (.one (.v (.bool tr)))), (19, .p (.one (.p 2 0))), (20, .p (.one (.p 3 0))), (21, .p (.one (.w .u64 p4))), (22, .p (.one (.w .u64 q2)))], [[.w .u64 p1, .w .u64 p2, .w .u64 p3, .w .u64 p4], [.w .u64 q1, .w .u64 q2, .w .u64 q3, .w .u64 q4], m3, m4]⟩]) else (bif decide (times j 4 = 2) then (some [⟨[(0, .p (.one (.v (.int .i64 op)))), (1, .p (.one (.v (.bool w)))), (6, .p (.one (.v (.int .i64 to)))), (7, .p (.one (.v (.bool big)))), (8, .p (.one (.v (.bool tr)))), (19, .p (.one (.p 2 0))), (20, .p (.one (.p 3 0))), (21, .p (.one (.w .u64 p4))), (22, .p (.one (.w .u64 q3)))], [[.w .u64 p1, .w .u64 p2, .w .u64 p3, .w .u64 p4], [.w .u64 q1, .w .u64 q2, .w .u64 q3, .w .u64 q4], m3, m4]⟩]) else (bif decide (times j 4 = 3) then (some [⟨[(0, .p (.one (.v (.int .i64 op)))), (1, .p (.one (.v (.bool w)))), (6, .p (.one (.v (.int .i64 to)))), (7, .p (.one (.v (.bool big)))), (8, .p (.one (.v (.bool tr)))), (19, .p (.one (.p 2 0))), (20, .p (.one (.p 3 0))), (21, .p (.one (.w .u64 p4))), (22, .p (.one (.w .u64 q4)))], [[.w .u64 p1, .w .u64 p2, .w .u64 p3, .w .u64 p4], [.w .u64 q1, .w .u64 q2, .w .u64 q3, .w .u64 q4], m3, m4]⟩]) else none)))) else none)))) := by kernel_rfl
theorem reg (op i j to : Int) (w big tr : Bool) (p1 p2 p3 p4 q1 q2 q3 q4 : BitVec 64) (m3 m4 : List Cell) : (drawL Tryz.prog (lk ((16, (sm [] (hSS fun a b => bA (Sc.inn a b)))) :: (15, (sm [] (hSS fun a b => sA (Sc.join a b)))) :: (14, (sm [] (hSS fun a b => sbA (meetF a b) (meetB a b)))) :: (13, (sm [] (hIBBS fun n b t a => sA (sswap n b t a)))) :: (12, (sm [] (hIU fun n a => ubA (turnV n a) (turnOk n)))) :: (11, (sm [] (hIBU fun n b a => ubA (swapV n b a) (turnOk n)))) :: (10, (sm [] (g0 (sA all)))) :: (9, (sm [] (hIBSS fun op w a b => sA (doS op w a b)))) :: (8, (sm [] (hIBUU fun op w x y => ubA (Sc.alu op w x y) (opOk op)))) :: (6, (sm [] (hS fun k => bA (is k)))) :: (7, (sm [] (hSU fun k n => bA (Sc.has k n)))) :: (5, (sm [] (hL4 fun a b c d => sA (mk4 a b c d)))) :: L_sswap)) Tryz.f3.ntmps (opsAt (codeOf Tryz.f3) path) (opsAt (codeOf Tryz.f3) path).size (Array.replicate (opsAt (codeOf Tryz.f3) path).size false) [] ⟨[(0, .p (.one (.v (.int .i64 op)))), (1, .p (.one (.v (.bool w)))), (4, .p (.one (.v (.int .i64 i)))), (5, .p (.one (.v (.int .i64 j)))), (6, .p (.one (.v (.int .i64 to)))), (7, .p (.one (.v (.bool big)))), (8, .p (.one (.v (.bool tr)))), (11, .p (.one (.p 0 0))), (12, .p (.one (.p 1 0))), (19, .p (.one (.p 2 0))), (20, .p (.one (.p 3 0)))], [[.w .u64 p1, .w .u64 p2, .w .u64 p3, .w .u64 p4], [.w .u64 q1, .w .u64 q2, .w .u64 q3, .w .u64 q4], m3, m4]⟩).run.bind (permAll 4 K2 [[]]) = some (List.replicate 1 ⟨[(0, .p (.one (.v (.int .i64 op)))), (1, .p (.one (.v (.bool w)))), (6, .p (.one (.v (.int .i64 to)))), (7, .p (.one (.v (.bool big)))), (8, .p (.one (.v (.bool tr)))), (19, .p (.one (.p 2 0))), (20, .p (.one (.p 3 0))), (21, .p (.one (.w .u64 (pk4 (times i 4) p1 p2 p3 p4)))), (22, .p (.one (.w .u64 (pk4 (times j 4) q1 q2 q3 q4))))], [[.w .u64 p1, .w .u64 p2, .w .u64 p3, .w .u64 p4], [.w .u64 q1, .w .u64 q2, .w .u64 q3, .w .u64 q4], m3, m4]⟩) := by
  rw [runF_eq]
  refine (evReg _ _ _ _ _ _ _ _ _ _ _ _ _ _ _ _ _).trans ?_
  rcases times4 i with h | h | h | h <;> rcases times4 j with h' | h' | h' | h' <;> rw [h, h'] <;> rfl
end rg2
namespace rg3
def path : List Nat := [0, 0, 1, 1, 1, 1, 1, 1, 1]
def K : List Nat := [6, 7, 8, 19, 20, 21, 22, 23, 24, 25]
def K2 : List Nat := [6, 7, 8, 19, 20, 21, 22, 98]
noncomputable def orc : St → Option (Ex × St)
  | ⟨[(6, .p (.one (.v (.int .i64 to)))), (7, .p (.one (.v (.bool big)))), (8, .p (.one (.v (.bool tr)))), (19, .p (.one (.p 2 0))), (20, .p (.one (.p 3 0))), (21, .p (.one (.w .u64 x))), (22, .p (.one (.w .u64 y))), (23, .p (.one (.w .u64 v))), (24, .p (.one (.v (.bool o)))), (25, .p (.one (.p 4 0)))], [m1, m2, m3, m4, [.w .u64 d1, .w .u64 d2, .w .u64 d3, .w .u64 d4, .v (.int .i64 d5), .v (.int .i64 d6)]]⟩ => some (.normal, ⟨[(6, .p (.one (.v (.int .i64 to)))), (7, .p (.one (.v (.bool big)))), (8, .p (.one (.v (.bool tr)))), (19, .p (.one (.p 2 0))), (20, .p (.one (.p 3 0))), (21, .p (.one (.w .u64 x))), (22, .p (.one (.w .u64 y))), (98, .p (.one (.v (.bool (f9 ⟨⟨d1, d2⟩, d3, d4, d5, d6⟩ v o)))))], [m1, m2, m3, m4, [.w .u64 d1, .w .u64 d2, .w .u64 d3, .w .u64 d4, .v (.int .i64 d5), .v (.int .i64 d6)]]⟩)
  | _ => none
theorem evReg (to : Int) (big tr o : Bool) (x y v : BitVec 64) (m1 m2 m3 m4 : List Cell) (d1 d2 d3 d4 : BitVec 64) (d5 d6 : Int) : runF (permAll 5 K2 [[]]) (drawL Tryz.prog (lk ((16, (sm [] (hSS fun a b => bA (Sc.inn a b)))) :: (15, (sm [] (hSS fun a b => sA (Sc.join a b)))) :: (14, (sm [] (hSS fun a b => sbA (meetF a b) (meetB a b)))) :: (13, (sm [] (hIBBS fun n b t a => sA (sswap n b t a)))) :: (12, (sm [] (hIU fun n a => ubA (turnV n a) (turnOk n)))) :: (11, (sm [] (hIBU fun n b a => ubA (swapV n b a) (turnOk n)))) :: (10, (sm [] (g0 (sA all)))) :: (9, (sm [] (hIBSS fun op w a b => sA (doS op w a b)))) :: (8, (sm [] (hIBUU fun op w x y => ubA (Sc.alu op w x y) (opOk op)))) :: (6, (sm [] (hS fun k => bA (is k)))) :: (7, (sm [] (hSU fun k n => bA (Sc.has k n)))) :: (5, (sm [] (hL4 fun a b c d => sA (mk4 a b c d)))) :: L_sswap)) Tryz.f3.ntmps (opsAt (codeOf Tryz.f3) path) (opsAt (codeOf Tryz.f3) path).size (Array.replicate (opsAt (codeOf Tryz.f3) path).size false) [] ⟨[(6, .p (.one (.v (.int .i64 to)))), (7, .p (.one (.v (.bool big)))), (8, .p (.one (.v (.bool tr)))), (19, .p (.one (.p 2 0))), (20, .p (.one (.p 3 0))), (21, .p (.one (.w .u64 x))), (22, .p (.one (.w .u64 y))), (23, .p (.one (.w .u64 v))), (24, .p (.one (.v (.bool o)))), (25, .p (.one (.p 4 0)))], [m1, m2, m3, m4, [.w .u64 d1, .w .u64 d2, .w .u64 d3, .w .u64 d4, .v (.int .i64 d5), .v (.int .i64 d6)]]⟩) = (bif !!is ⟨⟨d1, d2⟩, d3, d4, d5, d6⟩ then (bif o then (bif !!Sc.has ⟨⟨d1, d2⟩, d3, d4, d5, d6⟩ v then (bif !o then (some [⟨[(6, .p (.one (.v (.int .i64 to)))), (7, .p (.one (.v (.bool big)))), (8, .p (.one (.v (.bool tr)))), (19, .p (.one (.p 2 0))), (20, .p (.one (.p 3 0))), (21, .p (.one (.w .u64 x))), (22, .p (.one (.w .u64 y))), (98, .p (.one (.v (.bool (!eqS ⟨⟨d1, d2⟩, d3, d4, d5, d6⟩ all)))))], [m1, m2, m3, m4, [.w .u64 d1, .w .u64 d2, .w .u64 d3, .w .u64 d4, .v (.int .i64 d5), .v (.int .i64 d6)]]⟩]) else (some [⟨[(6, .p (.one (.v (.int .i64 to)))), (7, .p (.one (.v (.bool big)))), (8, .p (.one (.v (.bool tr)))), (19, .p (.one (.p 2 0))), (20, .p (.one (.p 3 0))), (21, .p (.one (.w .u64 x))), (22, .p (.one (.w .u64 y))), (98, .p (.one (.v (.bool false))))], [m1, m2, m3, m4, [.w .u64 d1, .w .u64 d2, .w .u64 d3, .w .u64 d4, .v (.int .i64 d5), .v (.int .i64 d6)]]⟩])) else (some [⟨[(6, .p (.one (.v (.int .i64 to)))), (7, .p (.one (.v (.bool big)))), (8, .p (.one (.v (.bool tr)))), (19, .p (.one (.p 2 0))), (20, .p (.one (.p 3 0))), (21, .p (.one (.w .u64 x))), (22, .p (.one (.w .u64 y))), (98, .p (.one (.v (.bool true))))], [m1, m2, m3, m4, [.w .u64 d1, .w .u64 d2, .w .u64 d3, .w .u64 d4, .v (.int .i64 d5), .v (.int .i64 d6)]]⟩])) else (bif !o then (some [⟨[(6, .p (.one (.v (.int .i64 to)))), (7, .p (.one (.v (.bool big)))), (8, .p (.one (.v (.bool tr)))), (19, .p (.one (.p 2 0))), (20, .p (.one (.p 3 0))), (21, .p (.one (.w .u64 x))), (22, .p (.one (.w .u64 y))), (98, .p (.one (.v (.bool (!eqS ⟨⟨d1, d2⟩, d3, d4, d5, d6⟩ all)))))], [m1, m2, m3, m4, [.w .u64 d1, .w .u64 d2, .w .u64 d3, .w .u64 d4, .v (.int .i64 d5), .v (.int .i64 d6)]]⟩]) else (some [⟨[(6, .p (.one (.v (.int .i64 to)))), (7, .p (.one (.v (.bool big)))), (8, .p (.one (.v (.bool tr)))), (19, .p (.one (.p 2 0))), (20, .p (.one (.p 3 0))), (21, .p (.one (.w .u64 x))), (22, .p (.one (.w .u64 y))), (98, .p (.one (.v (.bool false))))], [m1, m2, m3, m4, [.w .u64 d1, .w .u64 d2, .w .u64 d3, .w .u64 d4, .v (.int .i64 d5), .v (.int .i64 d6)]]⟩]))) else (some [⟨[(6, .p (.one (.v (.int .i64 to)))), (7, .p (.one (.v (.bool big)))), (8, .p (.one (.v (.bool tr)))), (19, .p (.one (.p 2 0))), (20, .p (.one (.p 3 0))), (21, .p (.one (.w .u64 x))), (22, .p (.one (.w .u64 y))), (98, .p (.one (.v (.bool true))))], [m1, m2, m3, m4, [.w .u64 d1, .w .u64 d2, .w .u64 d3, .w .u64 d4, .v (.int .i64 d5), .v (.int .i64 d6)]]⟩])) := by kernel_rfl
theorem reg (to : Int) (big tr o : Bool) (x y v : BitVec 64) (m1 m2 m3 m4 : List Cell) (d1 d2 d3 d4 : BitVec 64) (d5 d6 : Int) : (drawL Tryz.prog (lk ((16, (sm [] (hSS fun a b => bA (Sc.inn a b)))) :: (15, (sm [] (hSS fun a b => sA (Sc.join a b)))) :: (14, (sm [] (hSS fun a b => sbA (meetF a b) (meetB a b)))) :: (13, (sm [] (hIBBS fun n b t a => sA (sswap n b t a)))) :: (12, (sm [] (hIU fun n a => ubA (turnV n a) (turnOk n)))) :: (11, (sm [] (hIBU fun n b a => ubA (swapV n b a) (turnOk n)))) :: (10, (sm [] (g0 (sA all)))) :: (9, (sm [] (hIBSS fun op w a b => sA (doS op w a b)))) :: (8, (sm [] (hIBUU fun op w x y => ubA (Sc.alu op w x y) (opOk op)))) :: (6, (sm [] (hS fun k => bA (is k)))) :: (7, (sm [] (hSU fun k n => bA (Sc.has k n)))) :: (5, (sm [] (hL4 fun a b c d => sA (mk4 a b c d)))) :: L_sswap)) Tryz.f3.ntmps (opsAt (codeOf Tryz.f3) path) (opsAt (codeOf Tryz.f3) path).size (Array.replicate (opsAt (codeOf Tryz.f3) path).size false) [] ⟨[(6, .p (.one (.v (.int .i64 to)))), (7, .p (.one (.v (.bool big)))), (8, .p (.one (.v (.bool tr)))), (19, .p (.one (.p 2 0))), (20, .p (.one (.p 3 0))), (21, .p (.one (.w .u64 x))), (22, .p (.one (.w .u64 y))), (23, .p (.one (.w .u64 v))), (24, .p (.one (.v (.bool o)))), (25, .p (.one (.p 4 0)))], [m1, m2, m3, m4, [.w .u64 d1, .w .u64 d2, .w .u64 d3, .w .u64 d4, .v (.int .i64 d5), .v (.int .i64 d6)]]⟩).run.bind (permAll 5 K2 [[]]) = some (List.replicate 1 ⟨[(6, .p (.one (.v (.int .i64 to)))), (7, .p (.one (.v (.bool big)))), (8, .p (.one (.v (.bool tr)))), (19, .p (.one (.p 2 0))), (20, .p (.one (.p 3 0))), (21, .p (.one (.w .u64 x))), (22, .p (.one (.w .u64 y))), (98, .p (.one (.v (.bool (f9 ⟨⟨d1, d2⟩, d3, d4, d5, d6⟩ v o)))))], [m1, m2, m3, m4, [.w .u64 d1, .w .u64 d2, .w .u64 d3, .w .u64 d4, .v (.int .i64 d5), .v (.int .i64 d6)]]⟩) := by
  rw [runF_eq]
  refine (evReg _ _ _ _ _ _ _ _ _ _ _ _ _ _ _ _ _).trans ?_
  unfold f9
  cases is ⟨⟨d1, d2⟩, d3, d4, d5, d6⟩ <;> cases o <;> cases Sc.has ⟨⟨d1, d2⟩, d3, d4, d5, d6⟩ v <;> rfl
end rg3
namespace rg4
def path : List Nat := [0, 0, 1, 1, 1, 1, 1, 1, 1, 1, 1, 1, 1]
def K : List Nat := [6, 19, 20, 21, 22, 24, 26, 27]
def K2 : List Nat := [19, 20, 21, 22, 143]
noncomputable def orc : St → Option (Ex × St)
  | ⟨[(6, .p (.one (.v (.int .i64 to)))), (19, .p (.one (.p 2 0))), (20, .p (.one (.p 3 0))), (21, .p (.one (.w .u64 x))), (22, .p (.one (.w .u64 y))), (24, .p (.one (.v (.bool o)))), (26, .p (.one (.w .u64 v))), (27, .p (.one (.p 5 0)))], [m1, m2, m3, m4, m5, [.w .u64 e1, .w .u64 e2, .w .u64 e3, .w .u64 e4, .v (.int .i64 e5), .v (.int .i64 e6)]]⟩ => gate to o (.normal, ⟨[(19, .p (.one (.p 2 0))), (20, .p (.one (.p 3 0))), (21, .p (.one (.w .u64 x))), (22, .p (.one (.w .u64 y))), (143, .p (.one (.v (.bool (f15 ⟨⟨e1, e2⟩, e3, e4, e5, e6⟩ v o to)))))], [m1, m2, m3, m4, m5, [.w .u64 e1, .w .u64 e2, .w .u64 e3, .w .u64 e4, .v (.int .i64 e5), .v (.int .i64 e6)]]⟩)
  | _ => none
theorem evReg (to : Int) (o : Bool) (x y v : BitVec 64) (m1 m2 m3 m4 m5 : List Cell) (e1 e2 e3 e4 : BitVec 64) (e5 e6 : Int) : runF (permAll 6 K2 [[]]) (drawL Tryz.prog (lk ((16, (sm [] (hSS fun a b => bA (Sc.inn a b)))) :: (15, (sm [] (hSS fun a b => sA (Sc.join a b)))) :: (14, (sm [] (hSS fun a b => sbA (meetF a b) (meetB a b)))) :: (13, (sm [] (hIBBS fun n b t a => sA (sswap n b t a)))) :: (12, (sm [] (hIU fun n a => ubA (turnV n a) (turnOk n)))) :: (11, (sm [] (hIBU fun n b a => ubA (swapV n b a) (turnOk n)))) :: (10, (sm [] (g0 (sA all)))) :: (9, (sm [] (hIBSS fun op w a b => sA (doS op w a b)))) :: (8, (sm [] (hIBUU fun op w x y => ubA (Sc.alu op w x y) (opOk op)))) :: (6, (sm [] (hS fun k => bA (is k)))) :: (7, (sm [] (hSU fun k n => bA (Sc.has k n)))) :: (5, (sm [] (hL4 fun a b c d => sA (mk4 a b c d)))) :: L_sswap)) Tryz.f3.ntmps (opsAt (codeOf Tryz.f3) path) (opsAt (codeOf Tryz.f3) path).size (Array.replicate (opsAt (codeOf Tryz.f3) path).size false) [] ⟨[(6, .p (.one (.v (.int .i64 to)))), (19, .p (.one (.p 2 0))), (20, .p (.one (.p 3 0))), (21, .p (.one (.w .u64 x))), (22, .p (.one (.w .u64 y))), (24, .p (.one (.v (.bool o)))), (26, .p (.one (.w .u64 v))), (27, .p (.one (.p 5 0)))], [m1, m2, m3, m4, m5, [.w .u64 e1, .w .u64 e2, .w .u64 e3, .w .u64 e4, .v (.int .i64 e5), .v (.int .i64 e6)]]⟩) = (bif !!is ⟨⟨e1, e2⟩, e3, e4, e5, e6⟩ then (bif o then (bif !!Sc.has ⟨⟨e1, e2⟩, e3, e4, e5, e6⟩ v then (bif o then (bif decide (to < 64) then (bif decide (to < 0) then none else (some [⟨[(19, .p (.one (.p 2 0))), (20, .p (.one (.p 3 0))), (21, .p (.one (.w .u64 x))), (22, .p (.one (.w .u64 y))), (143, .p (.one (.v (.bool (BitVec.ule (BitVec.ofInt 64 1 <<< to.toNat) e4)))))], [m1, m2, m3, m4, m5, [.w .u64 e1, .w .u64 e2, .w .u64 e3, .w .u64 e4, .v (.int .i64 e5), .v (.int .i64 e6)]]⟩])) else (some [⟨[(19, .p (.one (.p 2 0))), (20, .p (.one (.p 3 0))), (21, .p (.one (.w .u64 x))), (22, .p (.one (.w .u64 y))), (143, .p (.one (.v (.bool false))))], [m1, m2, m3, m4, m5, [.w .u64 e1, .w .u64 e2, .w .u64 e3, .w .u64 e4, .v (.int .i64 e5), .v (.int .i64 e6)]]⟩])) else (some [⟨[(19, .p (.one (.p 2 0))), (20, .p (.one (.p 3 0))), (21, .p (.one (.w .u64 x))), (22, .p (.one (.w .u64 y))), (143, .p (.one (.v (.bool false))))], [m1, m2, m3, m4, m5, [.w .u64 e1, .w .u64 e2, .w .u64 e3, .w .u64 e4, .v (.int .i64 e5), .v (.int .i64 e6)]]⟩])) else (some [⟨[(19, .p (.one (.p 2 0))), (20, .p (.one (.p 3 0))), (21, .p (.one (.w .u64 x))), (22, .p (.one (.w .u64 y))), (143, .p (.one (.v (.bool true))))], [m1, m2, m3, m4, m5, [.w .u64 e1, .w .u64 e2, .w .u64 e3, .w .u64 e4, .v (.int .i64 e5), .v (.int .i64 e6)]]⟩])) else (bif o then (bif decide (to < 64) then (bif decide (to < 0) then none else (some [⟨[(19, .p (.one (.p 2 0))), (20, .p (.one (.p 3 0))), (21, .p (.one (.w .u64 x))), (22, .p (.one (.w .u64 y))), (143, .p (.one (.v (.bool (BitVec.ule (BitVec.ofInt 64 1 <<< to.toNat) e4)))))], [m1, m2, m3, m4, m5, [.w .u64 e1, .w .u64 e2, .w .u64 e3, .w .u64 e4, .v (.int .i64 e5), .v (.int .i64 e6)]]⟩])) else (some [⟨[(19, .p (.one (.p 2 0))), (20, .p (.one (.p 3 0))), (21, .p (.one (.w .u64 x))), (22, .p (.one (.w .u64 y))), (143, .p (.one (.v (.bool false))))], [m1, m2, m3, m4, m5, [.w .u64 e1, .w .u64 e2, .w .u64 e3, .w .u64 e4, .v (.int .i64 e5), .v (.int .i64 e6)]]⟩])) else (some [⟨[(19, .p (.one (.p 2 0))), (20, .p (.one (.p 3 0))), (21, .p (.one (.w .u64 x))), (22, .p (.one (.w .u64 y))), (143, .p (.one (.v (.bool false))))], [m1, m2, m3, m4, m5, [.w .u64 e1, .w .u64 e2, .w .u64 e3, .w .u64 e4, .v (.int .i64 e5), .v (.int .i64 e6)]]⟩]))) else (some [⟨[(19, .p (.one (.p 2 0))), (20, .p (.one (.p 3 0))), (21, .p (.one (.w .u64 x))), (22, .p (.one (.w .u64 y))), (143, .p (.one (.v (.bool true))))], [m1, m2, m3, m4, m5, [.w .u64 e1, .w .u64 e2, .w .u64 e3, .w .u64 e4, .v (.int .i64 e5), .v (.int .i64 e6)]]⟩])) := by kernel_rfl
theorem reg (to : Int) (o : Bool) (x y v : BitVec 64) (m1 m2 m3 m4 m5 : List Cell) (e1 e2 e3 e4 : BitVec 64) (e5 e6 : Int) (hg : o = true → decide (to < 0) = false) : (drawL Tryz.prog (lk ((16, (sm [] (hSS fun a b => bA (Sc.inn a b)))) :: (15, (sm [] (hSS fun a b => sA (Sc.join a b)))) :: (14, (sm [] (hSS fun a b => sbA (meetF a b) (meetB a b)))) :: (13, (sm [] (hIBBS fun n b t a => sA (sswap n b t a)))) :: (12, (sm [] (hIU fun n a => ubA (turnV n a) (turnOk n)))) :: (11, (sm [] (hIBU fun n b a => ubA (swapV n b a) (turnOk n)))) :: (10, (sm [] (g0 (sA all)))) :: (9, (sm [] (hIBSS fun op w a b => sA (doS op w a b)))) :: (8, (sm [] (hIBUU fun op w x y => ubA (Sc.alu op w x y) (opOk op)))) :: (6, (sm [] (hS fun k => bA (is k)))) :: (7, (sm [] (hSU fun k n => bA (Sc.has k n)))) :: (5, (sm [] (hL4 fun a b c d => sA (mk4 a b c d)))) :: L_sswap)) Tryz.f3.ntmps (opsAt (codeOf Tryz.f3) path) (opsAt (codeOf Tryz.f3) path).size (Array.replicate (opsAt (codeOf Tryz.f3) path).size false) [] ⟨[(6, .p (.one (.v (.int .i64 to)))), (19, .p (.one (.p 2 0))), (20, .p (.one (.p 3 0))), (21, .p (.one (.w .u64 x))), (22, .p (.one (.w .u64 y))), (24, .p (.one (.v (.bool o)))), (26, .p (.one (.w .u64 v))), (27, .p (.one (.p 5 0)))], [m1, m2, m3, m4, m5, [.w .u64 e1, .w .u64 e2, .w .u64 e3, .w .u64 e4, .v (.int .i64 e5), .v (.int .i64 e6)]]⟩).run.bind (permAll 6 K2 [[]]) = some (List.replicate 1 ⟨[(19, .p (.one (.p 2 0))), (20, .p (.one (.p 3 0))), (21, .p (.one (.w .u64 x))), (22, .p (.one (.w .u64 y))), (143, .p (.one (.v (.bool (f15 ⟨⟨e1, e2⟩, e3, e4, e5, e6⟩ v o to)))))], [m1, m2, m3, m4, m5, [.w .u64 e1, .w .u64 e2, .w .u64 e3, .w .u64 e4, .v (.int .i64 e5), .v (.int .i64 e6)]]⟩) := by
  rw [runF_eq]
  refine (evReg _ _ _ _ _ _ _ _ _ _ _ _ _ _ _ _).trans ?_
  unfold f15
  have h : o = true → decide (to < 0) = false := hg
  cases is ⟨⟨e1, e2⟩, e3, e4, e5, e6⟩ <;> cases o <;> cases Sc.has ⟨⟨e1, e2⟩, e3, e4, e5, e6⟩ v <;> cases decide (to < 64) <;> first | rfl | (rw [h rfl]; rfl)
end rg4
def LL : LT := (oneL rg4.path rg4.K rg4.K2 rg4.orc (oneL rg3.path rg3.K rg3.K2 rg3.orc (oneL rg2.path rg2.K rg2.K2 rg2.orc (oneL rg1.path rg1.K rg1.K2 rg1.orc noL))))
theorem lok : LOk Tryz.prog (lk ((16, (sm [] (hSS fun a b => bA (Sc.inn a b)))) :: (15, (sm [] (hSS fun a b => sA (Sc.join a b)))) :: (14, (sm [] (hSS fun a b => sbA (meetF a b) (meetB a b)))) :: (13, (sm [] (hIBBS fun n b t a => sA (sswap n b t a)))) :: (12, (sm [] (hIU fun n a => ubA (turnV n a) (turnOk n)))) :: (11, (sm [] (hIBU fun n b a => ubA (swapV n b a) (turnOk n)))) :: (10, (sm [] (g0 (sA all)))) :: (9, (sm [] (hIBSS fun op w a b => sA (doS op w a b)))) :: (8, (sm [] (hIBUU fun op w x y => ubA (Sc.alu op w x y) (opOk op)))) :: (6, (sm [] (hS fun k => bA (is k)))) :: (7, (sm [] (hSU fun k n => bA (Sc.has k n)))) :: (5, (sm [] (hL4 fun a b c d => sA (mk4 a b c d)))) :: L_sswap)) Tryz.f3.ntmps 20 LL (codeOf Tryz.f3) := (lok_regP (lok_regP (lok_regP (lok_regP (noL_ok2 _ _ _ _ _ _) (by kernel_rfl) 12 [[], [0, 1, 3, 2], [], [], [0, 1, 3, 2], [0, 1, 3, 2], [], [], [], [0, 1, 3, 2], [0, 1, 3, 2], [0, 1, 3, 2]] fun st ex st' h => by
    unfold rg1.orc at h
    split at h
    · injection h with h
      injection h with h1 h2
      subst h1; subst h2
      exact ⟨rfl, 2, rfl, rg1.reg _ _ _ _ _ _ _ _ _ _ _ _ _ _ _⟩
    · cases h) (by kernel_rfl) 1 [[]] fun st ex st' h => by
    unfold rg2.orc at h
    split at h
    · injection h with h
      injection h with h1 h2
      subst h1; subst h2
      exact ⟨rfl, 4, rfl, rg2.reg _ _ _ _ _ _ _ _ _ _ _ _ _ _ _ _ _⟩
    · cases h) (by kernel_rfl) 1 [[]] fun st ex st' h => by
    unfold rg3.orc at h
    split at h
    · injection h with h
      injection h with h1 h2
      subst h1; subst h2
      exact ⟨rfl, 5, rfl, rg3.reg _ _ _ _ _ _ _ _ _ _ _ _ _ _ _ _ _⟩
    · cases h) (by kernel_rfl) 1 [[]] fun st ex st' h => by
    unfold rg4.orc at h
    split at h
    · obtain ⟨hg, h⟩ := gate_some h
      injection h with h1 h2
      subst h1; subst h2
      exact ⟨rfl, 6, rfl, rg4.reg _ _ _ _ _ _ _ _ _ _ _ _ _ _ _ _ hg⟩
    · cases h)
def rest (op : Int) (w : Bool) (A B : Sc) (x y : BitVec 64) (to : Int) (big tr : Bool) : Option (AV × Hp) := (bif !!is A then (bif !!Sc.has A x then (bif !Sc.has B y then some (bA false, []) else (bif f9 (doS op w A B) (Sc.alu op w x y) (opOk op) then some (bA false, []) else (bif tr then (bif f15 (sswap to big tr A) (turnV to x) (turnOk to) to then some (bA false, []) else (bif (meetB A B) then (bif !!is (meetF A B) then (bif Sc.has A y then (bif !!Sc.has (meetF A B) y then (bif !(meetB A B) then (bif Sc.has A y then some (bA false, []) else (bif is (Sc.join A B) then (bif Sc.has (Sc.join A B) x then (bif Sc.has (Sc.join A B) y then (bif Sc.inn A (Sc.join A B) then some (bA (Sc.inn B (Sc.join A B)), []) else some (bA false, [])) else some (bA false, [])) else some (bA false, [])) else some (bA false, []))) else (bif is (Sc.join A B) then (bif Sc.has (Sc.join A B) x then (bif Sc.has (Sc.join A B) y then (bif Sc.inn A (Sc.join A B) then some (bA (Sc.inn B (Sc.join A B)), []) else some (bA false, [])) else some (bA false, [])) else some (bA false, [])) else some (bA false, []))) else some (bA false, [])) else (bif !(meetB A B) then (bif Sc.has A y then some (bA false, []) else (bif is (Sc.join A B) then (bif Sc.has (Sc.join A B) x then (bif Sc.has (Sc.join A B) y then (bif Sc.inn A (Sc.join A B) then some (bA (Sc.inn B (Sc.join A B)), []) else some (bA false, [])) else some (bA false, [])) else some (bA false, [])) else some (bA false, []))) else (bif is (Sc.join A B) then (bif Sc.has (Sc.join A B) x then (bif Sc.has (Sc.join A B) y then (bif Sc.inn A (Sc.join A B) then some (bA (Sc.inn B (Sc.join A B)), []) else some (bA false, [])) else some (bA false, [])) else some (bA false, [])) else some (bA false, [])))) else some (bA false, [])) else (bif !(meetB A B) then (bif Sc.has A y then some (bA false, []) else (bif is (Sc.join A B) then (bif Sc.has (Sc.join A B) x then (bif Sc.has (Sc.join A B) y then (bif Sc.inn A (Sc.join A B) then some (bA (Sc.inn B (Sc.join A B)), []) else some (bA false, [])) else some (bA false, [])) else some (bA false, [])) else some (bA false, []))) else (bif is (Sc.join A B) then (bif Sc.has (Sc.join A B) x then (bif Sc.has (Sc.join A B) y then (bif Sc.inn A (Sc.join A B) then some (bA (Sc.inn B (Sc.join A B)), []) else some (bA false, [])) else some (bA false, [])) else some (bA false, [])) else some (bA false, []))))) else (bif f15 (sswap to big tr A) (swapV to big x) (turnOk to) to then some (bA false, []) else (bif (meetB A B) then (bif !!is (meetF A B) then (bif Sc.has A y then (bif !!Sc.has (meetF A B) y then (bif !(meetB A B) then (bif Sc.has A y then some (bA false, []) else (bif is (Sc.join A B) then (bif Sc.has (Sc.join A B) x then (bif Sc.has (Sc.join A B) y then (bif Sc.inn A (Sc.join A B) then some (bA (Sc.inn B (Sc.join A B)), []) else some (bA false, [])) else some (bA false, [])) else some (bA false, [])) else some (bA false, []))) else (bif is (Sc.join A B) then (bif Sc.has (Sc.join A B) x then (bif Sc.has (Sc.join A B) y then (bif Sc.inn A (Sc.join A B) then some (bA (Sc.inn B (Sc.join A B)), []) else some (bA false, [])) else some (bA false, [])) else some (bA false, [])) else some (bA false, []))) else some (bA false, [])) else (bif !(meetB A B) then (bif Sc.has A y then some (bA false, []) else (bif is (Sc.join A B) then (bif Sc.has (Sc.join A B) x then (bif Sc.has (Sc.join A B) y then (bif Sc.inn A (Sc.join A B) then some (bA (Sc.inn B (Sc.join A B)), []) else some (bA false, [])) else some (bA false, [])) else some (bA false, [])) else some (bA false, []))) else (bif is (Sc.join A B) then (bif Sc.has (Sc.join A B) x then (bif Sc.has (Sc.join A B) y then (bif Sc.inn A (Sc.join A B) then some (bA (Sc.inn B (Sc.join A B)), []) else some (bA false, [])) else some (bA false, [])) else some (bA false, [])) else some (bA false, [])))) else some (bA false, [])) else (bif !(meetB A B) then (bif Sc.has A y then some (bA false, []) else (bif is (Sc.join A B) then (bif Sc.has (Sc.join A B) x then (bif Sc.has (Sc.join A B) y then (bif Sc.inn A (Sc.join A B) then some (bA (Sc.inn B (Sc.join A B)), []) else some (bA false, [])) else some (bA false, [])) else some (bA false, [])) else some (bA false, []))) else (bif is (Sc.join A B) then (bif Sc.has (Sc.join A B) x then (bif Sc.has (Sc.join A B) y then (bif Sc.inn A (Sc.join A B) then some (bA (Sc.inn B (Sc.join A B)), []) else some (bA false, [])) else some (bA false, [])) else some (bA false, [])) else some (bA false, [])))))))) else some (bA false, [])) else some (bA false, []))
theorem evP (op : Int) (w : Bool) (a b c d e f g h : BitVec 64) (i j : Int) (big tr : Bool) (k : Nat) : (evalFnL Tryz.prog (lk ((16, (sm [] (hSS fun a b => bA (Sc.inn a b)))) :: (15, (sm [] (hSS fun a b => sA (Sc.join a b)))) :: (14, (sm [] (hSS fun a b => sbA (meetF a b) (meetB a b)))) :: (13, (sm [] (hIBBS fun n b t a => sA (sswap n b t a)))) :: (12, (sm [] (hIU fun n a => ubA (turnV n a) (turnOk n)))) :: (11, (sm [] (hIBU fun n b a => ubA (swapV n b a) (turnOk n)))) :: (10, (sm [] (g0 (sA all)))) :: (9, (sm [] (hIBSS fun op w a b => sA (doS op w a b)))) :: (8, (sm [] (hIBUU fun op w x y => ubA (Sc.alu op w x y) (opOk op)))) :: (6, (sm [] (hS fun k => bA (is k)))) :: (7, (sm [] (hSU fun k n => bA (Sc.has k n)))) :: (5, (sm [] (hL4 fun a b c d => sA (mk4 a b c d)))) :: L_sswap)) 20 LL Tryz.f3 (codeOf Tryz.f3) [iA op, bA w, .p (.many [.w .u64 a, .w .u64 b, .w .u64 c, .w .u64 d]), .p (.many [.w .u64 e, .w .u64 f, .w .u64 g, .w .u64 h]), iA i, iA j, iA (Int.ofNat k), bA big, bA tr] []).run = rest op w (mk4 a b c d) (mk4 e f g h) (pk4 (times i 4) a b c d) (pk4 (times j 4) e f g h) (Int.ofNat k) big tr := by kernel_rfl
theorem evN (op : Int) (w : Bool) (a b c d e f g h : BitVec 64) (i j : Int) (big tr : Bool) (k : Nat) : (evalFnL Tryz.prog (lk ((16, (sm [] (hSS fun a b => bA (Sc.inn a b)))) :: (15, (sm [] (hSS fun a b => sA (Sc.join a b)))) :: (14, (sm [] (hSS fun a b => sbA (meetF a b) (meetB a b)))) :: (13, (sm [] (hIBBS fun n b t a => sA (sswap n b t a)))) :: (12, (sm [] (hIU fun n a => ubA (turnV n a) (turnOk n)))) :: (11, (sm [] (hIBU fun n b a => ubA (swapV n b a) (turnOk n)))) :: (10, (sm [] (g0 (sA all)))) :: (9, (sm [] (hIBSS fun op w a b => sA (doS op w a b)))) :: (8, (sm [] (hIBUU fun op w x y => ubA (Sc.alu op w x y) (opOk op)))) :: (6, (sm [] (hS fun k => bA (is k)))) :: (7, (sm [] (hSU fun k n => bA (Sc.has k n)))) :: (5, (sm [] (hL4 fun a b c d => sA (mk4 a b c d)))) :: L_sswap)) 20 LL Tryz.f3 (codeOf Tryz.f3) [iA op, bA w, .p (.many [.w .u64 a, .w .u64 b, .w .u64 c, .w .u64 d]), .p (.many [.w .u64 e, .w .u64 f, .w .u64 g, .w .u64 h]), iA i, iA j, iA (Int.negSucc k), bA big, bA tr] []).run = rest op w (mk4 a b c d) (mk4 e f g h) (pk4 (times i 4) a b c d) (pk4 (times j 4) e f g h) (Int.negSucc k) big tr := by kernel_rfl
theorem evA (op : Int) (w : Bool) (a b c d e f g h : BitVec 64) (i j to : Int) (big tr : Bool) : (evalFnL Tryz.prog (lk ((16, (sm [] (hSS fun a b => bA (Sc.inn a b)))) :: (15, (sm [] (hSS fun a b => sA (Sc.join a b)))) :: (14, (sm [] (hSS fun a b => sbA (meetF a b) (meetB a b)))) :: (13, (sm [] (hIBBS fun n b t a => sA (sswap n b t a)))) :: (12, (sm [] (hIU fun n a => ubA (turnV n a) (turnOk n)))) :: (11, (sm [] (hIBU fun n b a => ubA (swapV n b a) (turnOk n)))) :: (10, (sm [] (g0 (sA all)))) :: (9, (sm [] (hIBSS fun op w a b => sA (doS op w a b)))) :: (8, (sm [] (hIBUU fun op w x y => ubA (Sc.alu op w x y) (opOk op)))) :: (6, (sm [] (hS fun k => bA (is k)))) :: (7, (sm [] (hSU fun k n => bA (Sc.has k n)))) :: (5, (sm [] (hL4 fun a b c d => sA (mk4 a b c d)))) :: L_sswap)) 20 LL Tryz.f3 (codeOf Tryz.f3) [iA op, bA w, .p (.many [.w .u64 a, .w .u64 b, .w .u64 c, .w .u64 d]), .p (.many [.w .u64 e, .w .u64 f, .w .u64 g, .w .u64 h]), iA i, iA j, iA to, bA big, bA tr] []).run = rest op w (mk4 a b c d) (mk4 e f g h) (pk4 (times i 4) a b c d) (pk4 (times j 4) e f g h) to big tr := by
  cases to with
  | ofNat k => exact evP op w a b c d e f g h i j big tr k
  | negSucc k => exact evN op w a b c d e f g h i j big tr k
theorem f9_no {op : Int} {w : Bool} {A B : Sc} {x y : BitVec 64} (ga : Sc.Good A) (gb : Sc.Good B) (hx : Has A x) (hy : Has B y) : f9 (doS op w A B) (Sc.alu op w x y) (opOk op) = false := by
  unfold f9
  cases ho : opOk op with
  | true =>
    obtain ⟨g, h⟩ := do_has (w := w) ga gb hx hy ho
    rw [is_iff.2 g.st, Sc.has_iff.2 h]; rfl
  | false =>
    rw [do_bad w A B ho, is_iff.2 all_good.st, eqS_iff.2 rfl]; rfl
theorem f15_no {A : Sc} {x : BitVec 64} (ga : Sc.Good A) (hx : Has A x) (to : Int) (big tr : Bool) : f15 (sswap to big tr A) (turnedV to big tr x) (turnOk to) to = false := by
  unfold f15
  cases ho : turnOk to with
  | true =>
    obtain ⟨g, h, h2⟩ := sswap_all (big := big) (turn := tr) ga hx ho
    rw [is_iff.2 g.st, Sc.has_iff.2 h]
    simp only [cond_true]
    cases ht : decide (to < 64) with
    | false => rfl
    | true =>
      have h3 := h2 (of_decide_eq_true ht)
      simp only [cond_true]
      rw [Bool.eq_false_iff]
      intro h4
      have h5 := ule_iff.1 h4
      have h6 : (BitVec.ofInt 64 1 <<< to.toNat).toNat = 2 ^ to.toNat := by
        have : to.toNat < 64 := by have := of_decide_eq_true ht; omega
        have h7 : 2 ^ to.toNat < 2 ^ 64 := Nat.pow_lt_pow_right (by omega) this
        rw [BitVec.toNat_shiftLeft, Nat.shiftLeft_eq, show (BitVec.ofInt 64 1).toNat = 1 from by decide, Nat.one_mul]
        exact Nat.mod_eq_of_lt h7
      omega
  | false =>
    have e : sswap to big tr A = all := by unfold sswap; rw [ho]; rfl
    rw [e, is_iff.2 all_good.st]; rfl
theorem rest_true {op : Int} {w : Bool} {A B : Sc} {x y : BitVec 64} (ga : Sc.Good A) (gb : Sc.Good B) (hx : Has A x) (hy : Has B y) (to : Int) (big tr : Bool) : rest op w A B x y to big tr = some (bA true, []) := by
  have hJ : (bif is (Sc.join A B) then (bif Sc.has (Sc.join A B) x then (bif Sc.has (Sc.join A B) y then (bif Sc.inn A (Sc.join A B) then some (bA (Sc.inn B (Sc.join A B)), []) else some (bA false, [])) else some (bA false, [])) else some (bA false, [])) else some (bA false, [])) = some (bA true, ([] : Hp)) := by
    obtain ⟨gc, s1, s2⟩ := join_good ga gb
    rw [is_iff.2 gc.st, Sc.has_iff.2 (s1.has gc.ok hx), Sc.has_iff.2 (s2.has gc.ok hy), inn_of ga gc s1, inn_of gb gc s2]; rfl
  have hP : (bif (meetB A B) then (bif !!is (meetF A B) then (bif Sc.has A y then (bif !!Sc.has (meetF A B) y then (bif !(meetB A B) then (bif Sc.has A y then some (bA false, []) else (bif is (Sc.join A B) then (bif Sc.has (Sc.join A B) x then (bif Sc.has (Sc.join A B) y then (bif Sc.inn A (Sc.join A B) then some (bA (Sc.inn B (Sc.join A B)), []) else some (bA false, [])) else some (bA false, [])) else some (bA false, [])) else some (bA false, []))) else (bif is (Sc.join A B) then (bif Sc.has (Sc.join A B) x then (bif Sc.has (Sc.join A B) y then (bif Sc.inn A (Sc.join A B) then some (bA (Sc.inn B (Sc.join A B)), []) else some (bA false, [])) else some (bA false, [])) else some (bA false, [])) else some (bA false, []))) else some (bA false, [])) else (bif !(meetB A B) then (bif Sc.has A y then some (bA false, []) else (bif is (Sc.join A B) then (bif Sc.has (Sc.join A B) x then (bif Sc.has (Sc.join A B) y then (bif Sc.inn A (Sc.join A B) then some (bA (Sc.inn B (Sc.join A B)), []) else some (bA false, [])) else some (bA false, [])) else some (bA false, [])) else some (bA false, []))) else (bif is (Sc.join A B) then (bif Sc.has (Sc.join A B) x then (bif Sc.has (Sc.join A B) y then (bif Sc.inn A (Sc.join A B) then some (bA (Sc.inn B (Sc.join A B)), []) else some (bA false, [])) else some (bA false, [])) else some (bA false, [])) else some (bA false, [])))) else some (bA false, [])) else (bif !(meetB A B) then (bif Sc.has A y then some (bA false, []) else (bif is (Sc.join A B) then (bif Sc.has (Sc.join A B) x then (bif Sc.has (Sc.join A B) y then (bif Sc.inn A (Sc.join A B) then some (bA (Sc.inn B (Sc.join A B)), []) else some (bA false, [])) else some (bA false, [])) else some (bA false, [])) else some (bA false, []))) else (bif is (Sc.join A B) then (bif Sc.has (Sc.join A B) x then (bif Sc.has (Sc.join A B) y then (bif Sc.inn A (Sc.join A B) then some (bA (Sc.inn B (Sc.join A B)), []) else some (bA false, [])) else some (bA false, [])) else some (bA false, [])) else some (bA false, [])))) = some (bA true, ([] : Hp)) := by
    rw [hJ]
    have hmf : meetF A B = (meetS A B).getD Sc.zero := rfl
    have hmb : meetB A B = (meetS A B).isSome := rfl
    rw [hmf, hmb]
    cases hm : meetS A B with
    | none =>
      cases ha : Sc.has A y with
      | false => rfl
      | true =>
        obtain ⟨m, h1, h2⟩ := meetS_has ga gb (Sc.has_iff.1 ha) hy
        rw [hm] at h1; cases h1
    | some m =>
      obtain ⟨gm, _, _⟩ := meetS_some ga gb hm
      have e1 : is ((some m).getD Sc.zero) = true := is_iff.2 gm.st
      rw [e1]
      cases ha : Sc.has A y with
      | false => rfl
      | true =>
        obtain ⟨m', h1, h2⟩ := meetS_has ga gb (Sc.has_iff.1 ha) hy
        rw [hm] at h1
        injection h1 with h1
        subst h1
        have e2 : Sc.has ((some m).getD Sc.zero) y = true := Sc.has_iff.2 h2
        rw [e2]; rfl
  unfold rest
  rw [hP, f9_no ga gb hx hy, is_iff.2 ga.st, Sc.has_iff.2 hx, Sc.has_iff.2 hy]
  have h15 := f15_no ga hx to big tr
  cases tr with
  | true => rw [show turnV to x = turnedV to big true x from rfl, h15]; rfl
  | false => rw [show swapV to big x = turnedV to big false x from rfl, h15]; rfl
theorem pk4_has {A : Sc} {a b c d : BitVec 64} (h : ∀ x, x = a ∨ x = b ∨ x = c ∨ x = d → Has A x) (k : Int) : Has A (pk4 k a b c d) := by
  apply h
  unfold pk4
  cases decide (k = 0) <;> cases decide (k = 1) <;> cases decide (k = 2) <;> simp
theorem ev (op : Int) (w : Bool) (a b c d e f g h : BitVec 64) (i j to : Int) (big tr : Bool) : (evalFnL Tryz.prog (lk ((16, (sm [] (hSS fun a b => bA (Sc.inn a b)))) :: (15, (sm [] (hSS fun a b => sA (Sc.join a b)))) :: (14, (sm [] (hSS fun a b => sbA (meetF a b) (meetB a b)))) :: (13, (sm [] (hIBBS fun n b t a => sA (sswap n b t a)))) :: (12, (sm [] (hIU fun n a => ubA (turnV n a) (turnOk n)))) :: (11, (sm [] (hIBU fun n b a => ubA (swapV n b a) (turnOk n)))) :: (10, (sm [] (g0 (sA all)))) :: (9, (sm [] (hIBSS fun op w a b => sA (doS op w a b)))) :: (8, (sm [] (hIBUU fun op w x y => ubA (Sc.alu op w x y) (opOk op)))) :: (6, (sm [] (hS fun k => bA (is k)))) :: (7, (sm [] (hSU fun k n => bA (Sc.has k n)))) :: (5, (sm [] (hL4 fun a b c d => sA (mk4 a b c d)))) :: L_sswap)) 20 LL Tryz.f3 (codeOf Tryz.f3) [iA op, bA w, .p (.many [.w .u64 a, .w .u64 b, .w .u64 c, .w .u64 d]), .p (.many [.w .u64 e, .w .u64 f, .w .u64 g, .w .u64 h]), iA i, iA j, iA to, bA big, bA tr] []).run = some (bA true, []) := by
  refine (evA op w a b c d e f g h i j to big tr).trans ?_
  obtain ⟨ga, ha⟩ := mk4_good a b c d
  obtain ⟨gb, hb⟩ := mk4_good e f g h
  exact rest_true ga gb (pk4_has ha _) (pk4_has hb _) to big tr

theorem lifted (os : Os) (started : os.Started) : ∀ {H : Type} (enc : TypeId × Value → H), ReturnsInHanded {} Tryz.checked os 3 .any (fun w args => (Rows.scalarDoesSpec.pre enc Tryz.prog Tryz.f3 [] false w args ∧ laidMetH Tryz.prog [("math/bits.deBruijn64tab", Rows.laid_math_bits_deBruijn64tab)] w) ∧ sizedMet enc Tryz.prog Tryz.f3 (OpenSpec.ofChange Rows.scalarDoesSpec) false w args)
    (Rows.scalarDoesSpec.post enc Tryz.prog Tryz.f3 false true false false) := by
  intro H enc
  refine law_lifted_laid (K := Kn) (by kernel_rfl) (by kernel_rfl) started (by kernel_rfl) Tryz.func3 rfl ?_ rfl (by kernel_rfl) ?_ (fun W h => tab_of_laid h)
    (ChangeSpec.witness_at (enc := enc) (C := Tryz.checked) (os := os) (X := fun w _ => laidMetH Tryz.prog [("math/bits.deBruijn64tab", Rows.laid_math_bits_deBruijn64tab)] w) false (laidWorld os) #[.int .i64 0, .bool false, .agg #[.int .u64 0, .int .u64 0, .int .u64 0, .int .u64 0], .agg #[.int .u64 0, .int .u64 0, .int .u64 0, .int .u64 0], .int .i64 0, .int .i64 0, .int .i64 0, .bool false, .bool false] 8 rfl (by kernel_rfl) (by kernel_rfl) (by kernel_rfl) (by kernel_rfl) (by kernel_rfl) (laidWorld_met os _)) ?_
  · exact of_decide_eq_true (by kernel_rfl)
  · intro ds hds
    match ds, hds with
    | [d0, d1, d2, d3, d4, d5, d6, d7, d8], _ => rfl
  · refine law_flatL (lk_cons ok_sin (lk_cons ok_sjoin (lk_cons ok_smeet (lk_cons ok_sswap (lk_cons ok_aturn (lk_cons ok_aswap (lk_cons ok_sunknown (lk_cons ok_sdo (lk_cons ok_aluDo (lk_cons ok_sis (lk_cons ok_shas (lk_cons ok_lmade tok_sswap)))))))))))) Tryz.checked.mixed Tryz.func3 (by rfl) 20 4 lok (sh := [.one (.i .i64), .one .b, .many [.i .u64, .i .u64, .i .u64, .i .u64], .many [.i .u64, .i .u64, .i .u64, .i .u64], .one (.i .i64), .one (.i .i64), .one (.i .i64), .one .b, .one .b]) (by kernel_rfl) fun l hl => ?_
    obtain ⟨cc0, l0, rfl, ck0, hz0⟩ := FA_one hl
    obtain ⟨op, rfl, op_lo, op_hi⟩ := CK1_s rfl ck0
    obtain ⟨cc1, l1, rfl, ck1, hz1⟩ := FA_one hz0
    obtain ⟨w, rfl⟩ := CK1_b ck1
    obtain ⟨cs2, l2, rfl, ck2, hz2⟩ := FA_many hz1
    obtain ⟨a, q2a, rfl, ck2a⟩ := CK_u rfl ck2
    obtain ⟨b, q2b, rfl, ck2b⟩ := CK_u rfl ck2a
    obtain ⟨c, q2c, rfl, ck2c⟩ := CK_u rfl ck2b
    obtain ⟨d, q2d, rfl, ck2d⟩ := CK_u rfl ck2c
    obtain rfl := CK_nil ck2d
    obtain ⟨cs3, l3, rfl, ck3, hz3⟩ := FA_many hz2
    obtain ⟨e, q3a, rfl, ck3a⟩ := CK_u rfl ck3
    obtain ⟨f, q3b, rfl, ck3b⟩ := CK_u rfl ck3a
    obtain ⟨g, q3c, rfl, ck3c⟩ := CK_u rfl ck3b
    obtain ⟨h, q3d, rfl, ck3d⟩ := CK_u rfl ck3c
    obtain rfl := CK_nil ck3d
    obtain ⟨cc4, l4, rfl, ck4, hz4⟩ := FA_one hz3
    obtain ⟨i, rfl, i_lo, i_hi⟩ := CK1_s rfl ck4
    obtain ⟨cc5, l5, rfl, ck5, hz5⟩ := FA_one hz4
    obtain ⟨j, rfl, j_lo, j_hi⟩ := CK1_s rfl ck5
    obtain ⟨cc6, l6, rfl, ck6, hz6⟩ := FA_one hz5
    obtain ⟨to, rfl, to_lo, to_hi⟩ := CK1_s rfl ck6
    obtain ⟨cc7, l7, rfl, ck7, hz7⟩ := FA_one hz6
    obtain ⟨big, rfl⟩ := CK1_b ck7
    obtain ⟨cc8, l8, rfl, ck8, hz8⟩ := FA_one hz7
    obtain ⟨tr, rfl⟩ := CK1_b ck8
    cases FA_nil hz8
    exact ev op w a b c d e f g h i j to big tr

theorem over : Rows.scalarDoesRow.holds Tryz.pinned (OpenSpec.ofChange Rows.scalarDoesSpec) :=
  OpenClaim.holds_of_wide 3 Tryz.f3 rfl rfl rfl rfl rfl rfl rfl ⟨rfl, rfl, rfl, rfl, rfl⟩ rfl rfl rfl rfl rfl (by kernel_rfl) Tryz.func3 (by kernel_rfl)
    (of_decide_eq_true (by kernel_rfl)) (by unfold Func.isWrapper; first | (rw [if_pos (by decide +kernel)]; kernel_rfl) | (rw [if_neg (by decide +kernel)]; exact ⟨rfl, rfl⟩))
    (fun os started H enc _ => lifted os started enc)
theorem holds : Rows.ScalarDoesCardSaid :=
  Claim7.holds_tied_plain_at .later [] [.data] true (true, "170a58fd3218bf7ad163ded1d671d7fdd2c95d263af1b5cad378de62433ef8ad") false
    over (fun _ h => by cases h) (by kernel_rfl) (fun _ h => by cases h) scalarDoes_row_tie rfl ⟨rfl, rfl⟩ (by kernel_rfl) rfl
    (fun f fn hf hfn => by
      obtain rfl : f = 3 := Option.some.inj ((show Tryz.prog.funcNamed "barbican/barbicanlaw7.ScalarDoes" = some 3 by kernel_rfl).symm.trans hf) |>.symm
      obtain rfl : fn = Tryz.f3 := (Option.some.inj (Tryz.func3.symm.trans hfn)).symm
      exact ⟨by kernel_rfl, fun j t ht => by
        have hall : ∀ t ∈ Tryz.f3.params.toList, Tryz.prog.wantsStandIn t = false := of_decide_eq_true (by kernel_rfl)
        exact hall t (Array.mem_toList_iff.2 (Array.mem_of_getElem? ht))⟩)
    (by kernel_rfl)

end
end Go.Proofs.YtlaaljiffcablaaGreatDoor.lScalarDoes
