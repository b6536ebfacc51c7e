/-
  Tnums: what the functions of the package compute, said of bit vectors (as in TnS); their values in the second machine.
-/
import Derived.Test.YtoljppjibhnndaaSzAG
import Derived.Shelf.Strconv.Itoa0
import Derived.Lib.TrailingZeros
namespace Go.Tn
open Go Go.Sy Go.Sz
set_option linter.unusedVariables false
set_option linter.unusedSimpArgs false
set_option linter.constructorNameAsVariable false

structure Tn where
  v : BitVec 64
  m : BitVec 64

@[reducible] def full : BitVec 64 := BitVec.ofInt 64 18446744073709551615
def unknown : Tn := ⟨BitVec.ofInt 64 0, full⟩
def ok (t : Tn) : Bool := t.v &&& t.m == BitVec.ofInt 64 0
def right (t : Tn) : Tn := bif ok t then t else unknown
def has (t : Tn) (n : BitVec 64) : Bool := bif ok t then n &&& ~~~t.m == t.v else false
def const (n : BitVec 64) : Tn := ⟨n, BitVec.ofInt 64 0⟩
def of (v m : BitVec 64) : Tn := ⟨v &&& ~~~m, m⟩

/-- bits.Len64 -/
def len64 (x : BitVec 64) : Int := Lib.bitLen x.toNat

def range (l m : BitVec 64) : Tn := bif BitVec.ult m l then unknown else of l ((BitVec.ofInt 64 1 <<< (len64 (l ^^^ m)).toNat) - BitVec.ofInt 64 1)
def least (t : Tn) : BitVec 64 := (right t).v
def most (t : Tn) : BitVec 64 := (right t).v ||| (right t).m
def inn' (a b : Tn) : Bool := bif a.m &&& ~~~b.m == BitVec.ofInt 64 0 then a.v &&& ~~~b.m == b.v else false
def inn (a b : Tn) : Bool := inn' (right a) (right b)
def meetB (a b : Tn) : Bool := !(a.v &&& ~~~(a.m ||| b.m) != b.v &&& ~~~(a.m ||| b.m))
def meet' (a b : Tn) : Tn := bif meetB a b then ⟨a.v ||| b.v, a.m &&& b.m⟩ else ⟨BitVec.ofInt 64 0, BitVec.ofInt 64 0⟩
def meet (a b : Tn) : Tn := meet' (right a) (right b)
def meetOk (a b : Tn) : Bool := meetB (right a) (right b)
def eqT (a b : Tn) : Bool := a.v == b.v && (a.m == b.m && true)
def join' (a b : Tn) : Tn := bif eqT a b then a else of a.v (a.m ||| b.m ||| (a.v ^^^ b.v))
def join (a b : Tn) : Tn := join' (right a) (right b)
def add' (a b : Tn) : Tn := of (a.v + b.v) (((a.v + b.v + (a.m + b.m)) ^^^ (a.v + b.v)) ||| a.m ||| b.m)
def add (a b : Tn) : Tn := add' (right a) (right b)
def sub' (a b : Tn) : Tn := of (a.v - b.v) (((a.v - b.v + a.m) ^^^ (a.v - b.v - b.m)) ||| a.m ||| b.m)
def sub (a b : Tn) : Tn := sub' (right a) (right b)
def and' (a b : Tn) : Tn := ⟨a.v &&& b.v, (a.v ||| a.m) &&& (b.v ||| b.m) &&& ~~~(a.v &&& b.v)⟩
def or' (a b : Tn) : Tn := ⟨a.v ||| b.v, (a.m ||| b.m) &&& ~~~(a.v ||| b.v)⟩
def xor' (a b : Tn) : Tn := of (a.v ^^^ b.v) (a.m ||| b.m)
def and (a b : Tn) : Tn := and' (right a) (right b)
def or (a b : Tn) : Tn := or' (right a) (right b)
def xor (a b : Tn) : Tn := xor' (right a) (right b)
def times (n m : Int) : Int := (IntKind.i64.wrap (n.tmod m + m)).tmod m
def lsh' (a : Tn) (n : Nat) : Tn := ⟨a.v <<< n, a.m <<< n⟩
def rsh' (a : Tn) (n : Nat) : Tn := ⟨a.v >>> n, a.m >>> n⟩
def lsh (a : Tn) (n : Int) : Tn := lsh' (right a) (times n 64).toNat
def rsh (a : Tn) (n : Int) : Tn := rsh' (right a) (times n 64).toNat
def sar64 (x : BitVec 64) (n : Nat) : BitVec 64 := BitVec.ofInt 64 (x.toInt.fdiv (2 ^ (min n 64)))
def sar32 (x : BitVec 64) (n : Nat) : BitVec 64 := (BitVec.ofInt 32 ((IntKind.i32.wrap (x.toNat : Int)).fdiv (2 ^ (min n 32)))).setWidth 64
def arsh (a : Tn) (n : Int) (wide : Bool) : Tn := bif wide then ⟨sar64 (right a).v (times n 64).toNat, sar64 (right a).m (times n 64).toNat⟩
  else ⟨sar32 (right a).v (times n 32).toNat, sar32 (right a).m (times n 32).toNat⟩
/-- bits.TrailingZeros64 -/
def ctz64 (x : BitVec 64) : Int := Lib.ctz 64 x.toNat
def noughts (a : Tn) : Int := ctz64 (a.v ||| a.m)
def lo (x : BitVec 64) : BitVec 64 := (x.setWidth 32).setWidth 64
def low (a : Tn) : Tn := ⟨lo (right a).v, lo (right a).m⟩

@[reducible] def tS : ShA := .p (.many [.w .u64, .w .u64])
@[reducible] def uS : ShA := .c (.w .u64)
@[reducible] def iS : ShA := .c (.i .i64)
@[reducible] def bS : ShA := .c .b
def tA (t : Tn) : AV := .p (.many [.w .u64 t.v, .w .u64 t.m])
def uA (x : BitVec 64) : AV := .p (.one (.w .u64 x))
def iA (x : Int) : AV := .p (.one (.v (.int .i64 x)))
def bA (x : Bool) : AV := .p (.one (.v (.bool x)))
@[reducible] def u64s : Tys := .cons (.w .u64) .nil
abbrev U64s := List (BitVec 64 × Unit)
/-- what an index reads -/
def elt (l : U64s) (k : Nat) : BitVec 64 := (l.getD k (0#64, ())).1
theorem elt_get {l : U64s} {k : Nat} (h : k < l.length) : elt l k = (l[k]'h).1 := by
  unfold elt
  rw [List.getD_eq_getElem?_getD, List.getElem?_eq_getElem h]; rfl

theorem wrap_i64_small {n : Int} (h0 : -9223372036854775808 ≤ n) (h1 : n ≤ 9223372036854775807) : IntKind.i64.wrap n = n := by
  rw [IntKind.wrap_i64]; omega

theorem times_range {n m : Int} (h0 : 0 < m) (h1 : m ≤ 1000000) : 0 ≤ times n m ∧ times n m < m := by
  have a1 := Int.lt_tmod_of_pos n h0
  have a2 := Int.tmod_lt_of_pos n h0
  unfold times
  rw [wrap_i64_small (by omega) (by omega)]
  exact ⟨Int.tmod_nonneg _ (by omega), Int.tmod_lt_of_pos _ h0⟩

theorem times_neg {n m : Int} (h0 : 0 < m) (h1 : m ≤ 1000000) : decide (times n m < 0) = false := by
  have := (times_range (n := n) h0 h1).1
  simp; omega

end Go.Tn
