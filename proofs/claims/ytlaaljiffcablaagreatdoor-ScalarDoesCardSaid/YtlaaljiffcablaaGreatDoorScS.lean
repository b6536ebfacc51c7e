/-
  Scalars: what the functions of the package compute, said of words and signed numbers.
-/
import Derived.Test.YtlaaljiffcablaaGreatDoorTnN
import Derived.Test.YtlaaljiffcablaaGreatDoorTnH
namespace Go.Sc
open Go Go.Sy Go.Tn

structure Sc where
  t : Tn
  u : BitVec 64
  U : BitVec 64
  s : Int
  S : Int

def minU (x y : BitVec 64) : BitVec 64 := bif BitVec.ult y x then y else x
def maxU (x y : BitVec 64) : BitVec 64 := bif BitVec.ult x y then y else x
def minI (x y : Int) : Int := bif decide (y < x) then y else x
def maxI (x y : Int) : Int := bif decide (x < y) then y else x
def xorI (x y : Int) : Int := IntKind.i64.wrap ((BitVec.ofInt 64 x ^^^ BitVec.ofInt 64 y).toNat : Int)
@[reducible] def zW : BitVec 64 := BitVec.ofInt 64 0
@[reducible] def iMin : Int := -9223372036854775808
@[reducible] def iMax : Int := 9223372036854775807

def byBits (k : Sc) : Sc := ⟨k.t, maxU k.u (least k.t), minU k.U (most k.t), k.s, k.S⟩
def byRange (k : Sc) : Sc := bif meetOk k.t (range k.u k.U) then ⟨meet k.t (range k.u k.U), k.u, k.U, k.s, k.S⟩ else ⟨k.t, BitVec.ofInt 64 1, BitVec.ofInt 64 0, k.s, k.S⟩
def byPlain (k : Sc) : Sc := bif decide (0 ≤ (k.u ^^^ k.U).toInt) then ⟨k.t, k.u, k.U, maxI k.s k.u.toInt, minI k.S k.U.toInt⟩ else k
def bySign (k : Sc) : Sc := bif decide (0 ≤ xorI k.s k.S) then ⟨k.t, maxU k.u (BitVec.ofInt 64 k.s), minU k.U (BitVec.ofInt 64 k.S), k.s, k.S⟩ else k
def none' (k : Sc) : Bool := bif !ok k.t then true else bif BitVec.ult k.U k.u then true else decide (k.S < k.s)
def eqS (a b : Sc) : Bool := eqT a.t b.t && (a.u == b.u && (a.U == b.U && (a.s == b.s && (a.S == b.S && true))))

def turn (k : Sc) : Option Sc :=
  bif none' k then none else bif none' (byBits k) then none else bif none' (byRange (byBits k)) then none else
  bif none' (byPlain (byRange (byBits k))) then none else bif none' (bySign (byPlain (byRange (byBits k)))) then none else some (bySign (byPlain (byRange (byBits k))))

def syncE : Nat → Sc → Option (Option Sc)
  | 0, _ => none
  | n + 1, k => match turn k with
    | none => some none
    | some x => bif eqS x k then some (some x) else syncE n x

def width (k : Sc) : Nat := (k.U.toNat - k.u.toNat) + (k.S - k.s).toNat + k.t.m.toNat
/-- so many turns; the kernel does not reckon with it -/
noncomputable def fuel (k : Sc) : Nat := Classical.choose (⟨2 + width k, rfl⟩ : ∃ n, n = 2 + width k)
theorem fuel_eq (k : Sc) : fuel k = 2 + width k := Classical.choose_spec (⟨2 + width k, rfl⟩ : ∃ n, n = 2 + width k)
noncomputable section
def sync (k : Sc) : Option Sc := (syncE (fuel k) k).getD none
def zero : Sc := ⟨⟨zW, zW⟩, zW, zW, 0, 0⟩

def is (k : Sc) : Bool := match sync k with
  | some x => eqS x k
  | none => false
def has (k : Sc) (n : BitVec 64) : Bool := bif Tn.has k.t n then bif BitVec.ule k.u n then bif BitVec.ule n k.U then bif decide (k.s ≤ n.toInt) then decide (n.toInt ≤ k.S) else false else false else false else false
def const (n : BitVec 64) : Sc := ⟨Tn.const n, n, n, n.toInt, n.toInt⟩
def all : Sc := ⟨unknown, zW, full, iMin, iMax⟩
def synced (k : Sc) : Sc := (sync k).getD all
def right (k : Sc) : Sc := bif is k then k else all
def between (l m : BitVec 64) : Sc := bif BitVec.ult m l then all else synced ⟨unknown, l, m, iMin, iMax⟩
def inn (a b : Sc) : Bool := bif Tn.inn (right a).t (right b).t then bif BitVec.ule (right b).u (right a).u then bif BitVec.ule (right a).U (right b).U then bif decide ((right b).s ≤ (right a).s) then decide ((right a).S ≤ (right b).S) else false else false else false else false
def meetS (a b : Sc) : Option Sc := bif meetOk (right a).t (right b).t then sync ⟨Tn.meet (right a).t (right b).t, maxU (right a).u (right b).u, minU (right a).U (right b).U, maxI (right a).s (right b).s, minI (right a).S (right b).S⟩ else none
def joinP (a b : Sc) : Sc := ⟨Tn.join a.t b.t, minU a.u b.u, maxU a.U b.U, minI a.s b.s, maxI a.S b.S⟩
def join (a b : Sc) : Sc := synced (joinP (right a) (right b))
def isConst (k : Sc) : Bool := k.t.m == zW
def max32 : BitVec 64 := BitVec.ofInt 64 4294967295
def low (k : Sc) : Sc := synced (bif BitVec.ule k.U max32 then ⟨Tn.low k.t, k.u, k.U, iMin, iMax⟩ else ⟨Tn.low k.t, zW, full, iMin, iMax⟩)

def mk4 (a b c d : BitVec 64) : Sc := join (join (join (const a) (const b)) (const c)) (const d)

/-! ### Operations -/
def addI (a b : Int) : Int := IntKind.i64.wrap (a + b)
def subI (a b : Int) : Int := IntKind.i64.wrap (a - b)
def andI (x y : Int) : Int := IntKind.i64.wrap ((BitVec.ofInt 64 x &&& BitVec.ofInt 64 y).toNat : Int)
def ovA (a b : Int) : Bool := decide (andI (xorI a (addI a b)) (xorI b (addI a b)) < 0)
def ovS (a b : Int) : Bool := decide (andI (xorI a b) (xorI a (subI a b)) < 0)
def base (t : Tn) : Sc := ⟨t, zW, full, iMin, iMax⟩
def setU (k : Sc) (x y : BitVec 64) : Sc := ⟨k.t, x, y, k.s, k.S⟩
def setS (k : Sc) (x y : Int) : Sc := ⟨k.t, k.u, k.U, x, y⟩
def sumsU (a b k : Sc) : Sc := bif decide (a.U.toNat + b.U.toNat < 18446744073709551616) then setU k (a.u + b.u) (a.U + b.U) else k
def sumsI (a b k : Sc) : Sc := bif !ovA a.s b.s then bif !ovA a.S b.S then setS k (addI a.s b.s) (addI a.S b.S) else k else k
def sums (a b k : Sc) : Sc := sumsI a b (sumsU a b k)
def restsU (a b k : Sc) : Sc := bif BitVec.ule b.U a.u then setU k (a.u - b.U) (a.U - b.u) else k
def restsI (a b k : Sc) : Sc := bif !ovS a.s b.S then bif !ovS a.S b.s then setS k (subI a.s b.S) (subI a.S b.s) else k else k
def rests (a b k : Sc) : Sc := restsI a b (restsU a b k)
def products (a b k : Sc) : Sc := bif decide (a.U.toNat * b.U.toNat < 18446744073709551616) then setU k (a.u * b.u) (a.U * b.U) else k
def shL (a : Sc) (n : Int) (k : Sc) : Sc := bif BitVec.ule a.U (full >>> n.toNat) then ⟨Tn.lsh a.t n, a.u <<< n.toNat, a.U <<< n.toNat, k.s, k.S⟩ else ⟨Tn.lsh a.t n, k.u, k.U, k.s, k.S⟩
def shR (a : Sc) (n : Int) (k : Sc) : Sc := ⟨Tn.rsh a.t n, a.u >>> n.toNat, a.U >>> n.toNat, k.s, k.S⟩
def sarI (x : Int) (n : Int) : Int := x.fdiv (2 ^ (min n.toNat 64))
def shA (a : Sc) (n : Int) (k : Sc) : Sc := ⟨Tn.arsh a.t n true, k.u, k.U, sarI a.s n, sarI a.S n⟩
def shifts (op : Int) (a : Sc) (n : Int) (k : Sc) : Sc := bif decide (op = 6) then shL a n k else bif decide (op = 7) then shR a n k else shA a n k
def divs (a b : Sc) : Sc := bif BitVec.ult zW b.u then ⟨unknown, a.u / b.U, a.U / b.u, iMin, iMax⟩ else ⟨unknown, zW, a.U, iMin, iMax⟩
def mods (a b : Sc) : Sc := bif BitVec.ult zW b.u then ⟨unknown, zW, minU a.U (b.U - BitVec.ofInt 64 1), iMin, iMax⟩ else ⟨unknown, zW, a.U, iMin, iMax⟩
def sh64 (op : Int) (a b : Sc) : Sc := bif isConst b then shifts op a (b.u % BitVec.ofInt 64 64).toInt all else bif decide (op = 7) then ⟨unknown, zW, a.U, iMin, iMax⟩ else all
def whole (op : Int) (a b : Sc) : Sc :=
  bif decide (op = 0) then sums a b (base (Tn.add a.t b.t)) else
  bif decide (op = 1) then rests a b (base (Tn.sub a.t b.t)) else
  bif decide (op = 8) then rests (const zW) a (base (Tn.sub (Tn.const zW) a.t)) else
  bif decide (op = 2) then products a b (base (Tn.mul a.t b.t)) else
  bif decide (op = 5) then ⟨Tn.and a.t b.t, zW, minU a.U b.U, iMin, iMax⟩ else
  bif decide (op = 4) then ⟨Tn.or a.t b.t, maxU a.u b.u, full, iMin, iMax⟩ else
  bif decide (op = 10) then base (Tn.xor a.t b.t) else
  bif decide (op = 3) then divs a b else
  bif decide (op = 9) then mods a b else
  bif decide (op = 6) then sh64 op a b else bif decide (op = 7) then sh64 op a b else bif decide (op = 12) then sh64 op a b else all
def isSh (op : Int) : Bool := bif decide (op = 6) then true else bif decide (op = 7) then true else decide (op = 12)
def part' (op : Int) (a b : Sc) : Sc :=
  bif isSh op then
    (bif !isConst b then low all else
      bif decide (op = 12) then base (Tn.arsh a.t (b.u % BitVec.ofInt 64 32).toInt false) else low (synced (shifts op a (b.u % BitVec.ofInt 64 32).toInt all)))
  else low (synced (whole op a b))
def part (op : Int) (a b : Sc) : Sc := part' op (low a) (low b)

/-- what an operation does to words of so many bits -/
def opf (op : Int) (size : Int) (x y : BitVec 64) : BitVec 64 :=
  bif decide (op = 0) then x + y else bif decide (op = 1) then x - y else bif decide (op = 2) then x * y else
  bif decide (op = 3) then (bif y == zW then zW else x / y) else bif decide (op = 4) then x ||| y else bif decide (op = 5) then x &&& y else
  bif decide (op = 6) then x <<< (y % BitVec.ofInt 64 size).toNat else bif decide (op = 7) then x >>> (y % BitVec.ofInt 64 size).toNat else
  bif decide (op = 8) then -x else bif decide (op = 9) then (bif y == zW then x else x % y) else bif decide (op = 10) then x ^^^ y else bif decide (op = 11) then y else
  bif decide (size = 32) then sar32 x (y % BitVec.ofInt 64 32).toNat else sar64 x (y % BitVec.ofInt 64 64).toNat
def opOk (op : Int) : Bool := !(bif decide (op < 0) then true else decide (12 < op))
def alu (op : Int) (wide : Bool) (x y : BitVec 64) : BitVec 64 := bif opOk op then bif wide then opf op 64 x y else lo (opf op 32 (lo x) (lo y)) else zW

def do' (op : Int) (wide : Bool) (a b : Sc) : Sc :=
  bif opOk op then
    bif (bif (bif isConst a then isConst b else false) then true else bif isConst a then decide (op = 8) else false) then const (alu op wide a.u b.u) else
    bif (bif decide (op = 11) then wide else false) then b else
    bif decide (op = 11) then low b else
    bif wide then synced (whole op a b) else synced (part op a b)
  else all
def doS (op : Int) (wide : Bool) (a b : Sc) : Sc := do' op wide (right a) (right b)

/-! ### Comparisons -/
def isOp (op k : Int) : Bool := decide (op = k)
def contrary (op : Int) : Int := bif decide (op = 1) then 5 else bif decide (op = 5) then 1 else bif decide (op = 2) then 11 else bif decide (op = 11) then 2 else bif decide (op = 3) then 10 else bif decide (op = 10) then 3 else
  bif decide (op = 6) then 13 else bif decide (op = 13) then 6 else bif decide (op = 7) then 12 else 7
def turned (op : Int) : Int := bif decide (op = 2) then 10 else bif decide (op = 3) then 11 else bif decide (op = 10) then 2 else bif decide (op = 11) then 3 else
  bif decide (op = 6) then 12 else bif decide (op = 7) then 13 else bif decide (op = 12) then 6 else bif decide (op = 13) then 7 else op
def cmpU (op : Int) (a b : BitVec 64) (s t : Int) : Bool :=
  bif decide (op = 1) then a == b else bif decide (op = 5) then !(a == b) else bif decide (op = 2) then BitVec.ult b a else bif decide (op = 3) then BitVec.ule b a else
  bif decide (op = 10) then BitVec.ult a b else bif decide (op = 11) then BitVec.ule a b else bif decide (op = 4) then !(a &&& b == zW) else
  bif decide (op = 6) then decide (t < s) else bif decide (op = 7) then decide (t ≤ s) else bif decide (op = 12) then decide (s < t) else decide (s ≤ t)
def i32 (x : BitVec 64) : Int := (x.setWidth 32).toInt
def cmpOk (op : Int) : Bool := !(bif decide (op < 1) then true else bif decide (13 < op) then true else bif decide (op = 8) then true else decide (op = 9))
def cmp (op : Int) (wide : Bool) (x y : BitVec 64) : Bool := bif cmpOk op then bif wide then cmpU op x y x.toInt y.toInt else cmpU op (lo x) (lo y) (i32 x) (i32 y) else false

structure Pr where
  a : Sc
  b : Sc
  n : Bool

def less (p : Pr) (e : Bool) : Pr :=
  bif (bif BitVec.ult p.b.U (bif e then BitVec.ofInt 64 0 else BitVec.ofInt 64 1) then true else BitVec.ult (full - (bif e then BitVec.ofInt 64 0 else BitVec.ofInt 64 1)) p.a.u) then ⟨p.a, p.b, true⟩ else
  ⟨⟨p.a.t, p.a.u, minU p.a.U (p.b.U - (bif e then BitVec.ofInt 64 0 else BitVec.ofInt 64 1)), p.a.s, p.a.S⟩, ⟨p.b.t, maxU p.b.u (p.a.u + (bif e then BitVec.ofInt 64 0 else BitVec.ofInt 64 1)), p.b.U, p.b.s, p.b.S⟩, p.n⟩
def lessS (p : Pr) (e : Bool) : Pr :=
  bif (bif decide (p.b.S < addI iMin (bif e then 0 else 1)) then true else decide (subI iMax (bif e then 0 else 1) < p.a.s)) then ⟨p.a, p.b, true⟩ else
  ⟨⟨p.a.t, p.a.u, p.a.U, p.a.s, minI p.a.S (subI p.b.S (bif e then 0 else 1))⟩, ⟨p.b.t, p.b.u, p.b.U, maxI p.b.s (addI p.a.s (bif e then 0 else 1)), p.b.S⟩, p.n⟩
def same (p : Pr) : Pr := match meetS p.a p.b with
  | some m => ⟨m, m, false⟩
  | none => ⟨zero, zero, true⟩
def bump (k : Sc) (n : BitVec 64) : Sc :=
  ⟨k.t, bif k.u == n then k.u + BitVec.ofInt 64 1 else k.u, bif k.U == n then k.U - BitVec.ofInt 64 1 else k.U, bif k.s == n.toInt then addI k.s 1 else k.s, bif k.S == n.toInt then subI k.S 1 else k.S⟩
def bumpIf (k of : Sc) : Sc := bif !isConst of then k else bif isConst k then k else bump k of.u
def unlike (p : Pr) : Pr :=
  bif (bif (bif isConst p.a then isConst p.b else false) then p.a.u == p.b.u else false) then ⟨p.a, p.b, true⟩ else
  ⟨bumpIf p.a p.b, bumpIf p.b (bumpIf p.a p.b), p.n⟩
def cutT (k of : Sc) : Tn := Tn.meet k.t ⟨zW, ~~~of.t.v⟩
def cutOk (k of : Sc) : Bool := meetOk k.t ⟨zW, ~~~of.t.v⟩
def withT (k : Sc) (t : Tn) : Sc := ⟨t, k.u, k.U, k.s, k.S⟩
def apart (p : Pr) : Pr := bif !cutOk p.a p.b then ⟨p.a, p.b, true⟩ else bif !cutOk p.b p.a then ⟨withT p.a (cutT p.a p.b), p.b, true⟩ else ⟨withT p.a (cutT p.a p.b), withT p.b (cutT p.b p.a), p.n⟩
def common (p : Pr) : Pr := ⟨p.a, p.b, (p.a.t.v ||| p.a.t.m) &&& (p.b.t.v ||| p.b.t.m) == zW⟩
def holds0 (op : Int) (p : Pr) : Pr := bif decide (op = 1) then same p else bif decide (op = 5) then unlike p else bif (bif decide (op = 10) then true else decide (op = 11)) then less p (decide (op = 11)) else lessS p (decide (op = 13))
def swapP (p : Pr) : Pr := ⟨p.b, p.a, p.n⟩
def base0 (op : Int) : Bool := bif decide (op = 1) then true else bif decide (op = 5) then true else bif decide (op = 10) then true else bif decide (op = 11) then true else bif decide (op = 12) then true else decide (op = 13)
def holds (op : Int) (p : Pr) : Pr := bif base0 op then holds0 op p else swapP (holds0 (turned op) ⟨p.b, p.a, false⟩)
def m31 : BitVec 64 := BitVec.ofInt 64 2147483647
def narrow (k : Sc) : Bool := BitVec.ule k.U m31
def below (op : Int) (a b : Sc) : Bool := bif decide (op = 10) then BitVec.ult a.U b.u else bif decide (op = 11) then BitVec.ule a.U b.u else bif decide (op = 12) then decide (a.S < b.s) else decide (a.S ≤ b.s)
def dec1 (op : Int) (a b : Sc) : Bool × Bool := bif below op a b then (true, true) else (below (turned (contrary op)) b a, false)
def dec64 (op : Int) (a b : Sc) : Bool × Bool :=
  bif (bif decide (op = 1) then true else decide (op = 5)) then (!(meetS a b).isSome, bif !(meetS a b).isSome then decide (op = 5) else false) else
  bif decide (op = 4) then (bif !(a.t.v &&& b.t.v == zW) then (true, true) else ((a.t.v ||| a.t.m) &&& (b.t.v ||| b.t.m) == zW, false)) else
  bif (bif decide (op = 2) then true else bif decide (op = 3) then true else bif decide (op = 6) then true else decide (op = 7)) then dec1 (turned op) b a else dec1 op a b
def dec' (op : Int) (wide : Bool) (a b : Sc) : Bool × Bool :=
  bif (bif isConst a then isConst b else false) then (true, cmp op wide a.u b.u) else
  bif (bif !wide then !(bif narrow a then narrow b else false) else false) then (false, false) else dec64 op a b
def decided (op : Int) (wide : Bool) (a b : Sc) : Bool × Bool :=
  bif !cmpOk op then (false, false) else bif !wide then dec' op wide (low (right a)) (low (right b)) else dec' op wide (right a) (right b)
def close2 (p : Pr) : Option (Sc × Sc) := bif p.n then none else match sync p.a, sync p.b with
  | some x, some y => some (x, y)
  | _, _ => none
def goes (op : Int) (taken : Bool) (p : Pr) : Pr := bif (bif decide (op = 4) then taken else false) then common p else bif decide (op = 4) then apart p else bif taken then holds op p else holds (contrary op) p
def branch' (op : Int) (wide taken : Bool) (a b : Sc) : Option (Sc × Sc) :=
  bif !cmpOk op then some (a, b) else
  bif (bif (decided op wide a b).1 then (decided op wide a b).2 != taken else false) then none else
  bif (bif !wide then !(bif narrow a then narrow b else false) else false) then some (a, b) else close2 (goes op taken ⟨a, b, false⟩)
def branch (op : Int) (wide taken : Bool) (a b : Sc) : Option (Sc × Sc) := branch' op wide taken (right a) (right b)

/-! ### Bringing together, with what is left in the memory -/
def stepK (k : Sc) : Sc × Bool :=
  bif none' k then (k, false) else bif none' (byBits k) then (byBits k, false) else bif none' (byRange (byBits k)) then (byRange (byBits k), false) else
  bif none' (byPlain (byRange (byBits k))) then (byPlain (byRange (byBits k)), false) else (bySign (byPlain (byRange (byBits k))), !none' (bySign (byPlain (byRange (byBits k)))))
def syncKE : Nat → Sc → Option (Sc × Option Sc)
  | 0, _ => none
  | n + 1, k => bif (stepK k).2 then (bif eqS (stepK k).1 k then some ((stepK k).1, some (stepK k).1) else syncKE n (stepK k).1) else some ((stepK k).1, none)
def syncK (k : Sc) : Sc := ((syncKE (fuel k) k).getD (k, none)).1

theorem turn_step (k : Sc) : turn k = bif (stepK k).2 then some (stepK k).1 else none := by
  unfold turn stepK
  cases none' k with
  | true => rfl
  | false =>
    cases none' (byBits k) with
    | true => rfl
    | false =>
      cases none' (byRange (byBits k)) with
      | true => rfl
      | false =>
        cases none' (byPlain (byRange (byBits k))) with
        | true => rfl
        | false => cases none' (bySign (byPlain (byRange (byBits k)))) <;> rfl
theorem syncKE_snd : ∀ (n : Nat) (k : Sc), (syncKE n k).map (·.2) = syncE n k
  | 0, _ => rfl
  | n + 1, k => by
    unfold syncKE syncE
    rw [turn_step]
    cases (stepK k).2 with
    | false => rfl
    | true =>
      simp only [cond_true]
      cases eqS (stepK k).1 k with
      | true => rfl
      | false => exact syncKE_snd n _
end
end Go.Sc
