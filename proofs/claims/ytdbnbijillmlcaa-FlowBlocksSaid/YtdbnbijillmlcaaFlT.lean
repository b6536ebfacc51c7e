/-
  Control flow: blocks.
-/
import Derived.Test.YtdbnbijillmlcaaFlS
namespace Go.Fl
open Go Go.Sy Go.Sz Go.In
set_option linter.unusedVariables false
set_option linter.unusedSimpArgs false

abbrev bitA (b : Bools) (k : Nat) : Bool := (b.getD k (false, ())).1
/-- where subprograms begin -/
def marks1 (p : Parts) (b : Bools) : Bools := p.foldl (fun b q => b.set q.1.toNat (true, ())) b
/-- behind an operation that jumps or ends, and where it jumps to -/
def mark2 (l : Slots) (r b : Bools) (k : Nat) : Bools :=
  bif bitA r k && (jmpB (opA l k) || opA l k == BitVec.ofInt 8 149) then (bif opA l k == BitVec.ofInt 8 149 then b.set (k + 1) (true, ()) else (b.set (k + 1) (true, ())).set (jumpI l k).toNat (true, ())) else b
def marks2 (l : Slots) (r : Bools) (i : Nat) (b : Bools) : Bools := ((List.range l.length).drop i).foldl (mark2 l r) b
def setTo (p : Parts) (t : Int) : Parts := p.set (p.length - 1) ((p.getD (p.length - 1) (0, 0, ())).1, t, ())
def bstep (r b s : Bools) (x : Parts × Bool) (k : Nat) : Parts × Bool :=
  bif bitA s k then (bif x.2 && bitA r (k - 1) then (setTo x.1 ((k : Int) + 1), x.2) else x)
  else bif !bitA r k then (x.1, false) else bif !x.2 || bitA b k then (x.1 ++ [((k : Int), (k : Int) + 1, ())], true) else (setTo x.1 ((k : Int) + 1), x.2)
def bfold (r b s : Bools) (i n : Nat) (x : Parts × Bool) : Parts × Bool := ((List.range n).drop i).foldl (bstep r b s) x
theorem range_drop {n i : Nat} (h : i < n) : (List.range n).drop i = i :: (List.range n).drop (i + 1) := by
  rw [List.drop_eq_getElem_cons (by simpa using h)]; simp
theorem bfold_up {r b s : Bools} {i n : Nat} (h : i < n) (x : Parts × Bool) : bfold r b s i n x = bfold r b s (i + 1) n (bstep r b s x i) := by
  unfold bfold; rw [range_drop h]; rfl
theorem bfold_end {r b s : Bools} {i n : Nat} (h : n ≤ i) (x : Parts × Bool) : bfold r b s i n x = x := by
  unfold bfold; rw [List.drop_eq_nil_of_le (by simpa using h)]; rfl
theorem marks2_up {l : Slots} {r b : Bools} {i : Nat} (h : i < l.length) : marks2 l r i b = marks2 l r (i + 1) (mark2 l r b i) := by
  unfold marks2; rw [range_drop h]; rfl
theorem marks2_end {l : Slots} {r b : Bools} {i : Nat} (h : l.length ≤ i) : marks2 l r i b = b := by
  unfold marks2; rw [List.drop_eq_nil_of_le (by simpa using h)]; rfl
theorem mark2_len (l : Slots) (r b : Bools) (k : Nat) : (mark2 l r b k).length = b.length := by
  unfold mark2
  cases bitA r k && (jmpB (opA l k) || opA l k == BitVec.ofInt 8 149)
  · rfl
  · cases opA l k == BitVec.ofInt 8 149
    · show ((b.set _ _).set _ _).length = _
      rw [List.length_set, List.length_set]
    · exact List.length_set
theorem marks1_len : ∀ (p : Parts) (b : Bools), (marks1 p b).length = b.length
  | [], b => rfl
  | q :: p, b => by
    show (marks1 p (b.set _ _)).length = _
    rw [marks1_len p, List.length_set]
end Go.Fl
