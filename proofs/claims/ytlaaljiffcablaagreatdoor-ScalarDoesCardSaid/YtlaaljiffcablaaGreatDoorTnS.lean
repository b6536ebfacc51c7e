/-
  Tnums: what the functions of the package compute, said of bit vectors; the shapes of their arguments.
-/
import Derived.Test.YtlaaljiffcablaaGreatDoorSyK
import Derived.Shelf.Strconv.Itoa0
import Derived.Lib.TrailingZeros
namespace Go.Tn
open Go Go.Sy

structure Tn where
  v : BitVec 64
  m : BitVec 64

@[reducible] def full : BitVec 64 := BitVec.ofInt 64 18446744073709551615
def unknown : Tn := ⟨BitVec.ofInt 64 0, full⟩
def ok (t : Tn) : Bool := t.v &&& t.m == BitVec.ofInt 64 0
def right (t : Tn) : Tn := bif ok t then t else unknown
def has (t : Tn) (n : BitVec 64) : Bool := bif ok t then n &&& ~~~t.m == t.v else false
def const (n : BitVec 64) : Tn := ⟨n, BitVec.ofInt 64 0⟩
def of (v m : BitVec 64) : Tn := ⟨v &&& ~~~m, m⟩

/-- bits.Len64 -/
def len64 (x : BitVec 64) : Int := Lib.bitLen x.toNat

def range (l m : BitVec 64) : Tn := bif BitVec.ult m l then unknown else of l ((BitVec.ofInt 64 1 <<< (len64 (l ^^^ m)).toNat) - BitVec.ofInt 64 1)
def least (t : Tn) : BitVec 64 := (right t).v
def most (t : Tn) : BitVec 64 := (right t).v ||| (right t).m
def inn' (a b : Tn) : Bool := bif a.m &&& ~~~b.m == BitVec.ofInt 64 0 then a.v &&& ~~~b.m == b.v else false
def inn (a b : Tn) : Bool := inn' (right a) (right b)
def meetB (a b : Tn) : Bool := !(a.v &&& ~~~(a.m ||| b.m) != b.v &&& ~~~(a.m ||| b.m))
def meet' (a b : Tn) : Tn := bif meetB a b then ⟨a.v ||| b.v, a.m &&& b.m⟩ else ⟨BitVec.ofInt 64 0, BitVec.ofInt 64 0⟩
def meet (a b : Tn) : Tn := meet' (right a) (right b)
def meetOk (a b : Tn) : Bool := meetB (right a) (right b)
def eqT (a b : Tn) : Bool := a.v == b.v && (a.m == b.m && true)
def join' (a b : Tn) : Tn := bif eqT a b then a else of a.v (a.m ||| b.m ||| (a.v ^^^ b.v))
def join (a b : Tn) : Tn := join' (right a) (right b)
def add' (a b : Tn) : Tn := of (a.v + b.v) (((a.v + b.v + (a.m + b.m)) ^^^ (a.v + b.v)) ||| a.m ||| b.m)
def add (a b : Tn) : Tn := add' (right a) (right b)
def sub' (a b : Tn) : Tn := of (a.v - b.v) (((a.v - b.v + a.m) ^^^ (a.v - b.v - b.m)) ||| a.m ||| b.m)
def sub (a b : Tn) : Tn := sub' (right a) (right b)
def and' (a b : Tn) : Tn := ⟨a.v &&& b.v, (a.v ||| a.m) &&& (b.v ||| b.m) &&& ~~~(a.v &&& b.v)⟩
def or' (a b : Tn) : Tn := ⟨a.v ||| b.v, (a.m ||| b.m) &&& ~~~(a.v ||| b.v)⟩
def xor' (a b : Tn) : Tn := of (a.v ^^^ b.v) (a.m ||| b.m)
def and (a b : Tn) : Tn := and' (right a) (right b)
def or (a b : Tn) : Tn := or' (right a) (right b)
def xor (a b : Tn) : Tn := xor' (right a) (right b)
def times (n m : Int) : Int := (IntKind.i64.wrap (n.tmod m + m)).tmod m
def lsh' (a : Tn) (n : Nat) : Tn := ⟨a.v <<< n, a.m <<< n⟩
def rsh' (a : Tn) (n : Nat) : Tn := ⟨a.v >>> n, a.m >>> n⟩
def lsh (a : Tn) (n : Int) : Tn := lsh' (right a) (times n 64).toNat
def rsh (a : Tn) (n : Int) : Tn := rsh' (right a) (times n 64).toNat
def sar64 (x : BitVec 64) (n : Nat) : BitVec 64 := BitVec.ofInt 64 (x.toInt.fdiv (2 ^ (min n 64)))
def sar32 (x : BitVec 64) (n : Nat) : BitVec 64 := (BitVec.ofInt 32 ((IntKind.i32.wrap (x.toNat : Int)).fdiv (2 ^ (min n 32)))).setWidth 64
def arsh (a : Tn) (n : Int) (wide : Bool) : Tn := bif wide then ⟨sar64 (right a).v (times n 64).toNat, sar64 (right a).m (times n 64).toNat⟩
  else ⟨sar32 (right a).v (times n 32).toNat, sar32 (right a).m (times n 32).toNat⟩
/-- bits.TrailingZeros64 -/
def ctz64 (x : BitVec 64) : Int := Lib.ctz 64 x.toNat
def noughts (a : Tn) : Int := ctz64 (a.v ||| a.m)
def lo (x : BitVec 64) : BitVec 64 := (x.setWidth 32).setWidth 64
def low (a : Tn) : Tn := ⟨lo (right a).v, lo (right a).m⟩

/-! ### As values -/
@[reducible] def uA (n : BitVec 64) : AV := .p (.one (.w .u64 n))
@[reducible] def iA (n : Int) : AV := .p (.one (.v (.int .i64 n)))
@[reducible] def bA (n : Bool) : AV := .p (.one (.v (.bool n)))
@[reducible] def tA (t : Tn) : AV := .p (.many [.w .u64 t.v, .w .u64 t.m])
@[reducible] def pA (a b : Tn) : AV := .p (.many [.w .u64 a.v, .w .u64 a.m, .w .u64 b.v, .w .u64 b.m])
@[reducible] def tbA (t : Tn) (b : Bool) : AV := .t [.many [.w .u64 t.v, .w .u64 t.m], .one (.v (.bool b))]

/-! ### Shapes -/
section
abbrev G := List AV → Hp → Option (AV × Hp)
def g0 (F : AV) : G
  | [], [] => some (F, [])
  | _, _ => none
def gT (F : Tn → AV) : G
  | [.p (.many [.w .u64 a, .w .u64 b])], [] => some (F ⟨a, b⟩, [])
  | _, _ => none
def gTT (F : Tn → Tn → AV) : G
  | [.p (.many [.w .u64 a, .w .u64 b]), .p (.many [.w .u64 c, .w .u64 d])], [] => some (F ⟨a, b⟩ ⟨c, d⟩, [])
  | _, _ => none
def gP (F : Tn → Tn → AV) : G
  | [.p (.many [.w .u64 a, .w .u64 b, .w .u64 c, .w .u64 d])], [] => some (F ⟨a, b⟩ ⟨c, d⟩, [])
  | _, _ => none
def gTU (F : Tn → BitVec 64 → AV) : G
  | [.p (.many [.w .u64 a, .w .u64 b]), .p (.one (.w .u64 n))], [] => some (F ⟨a, b⟩ n, [])
  | _, _ => none
def gTI (F : Tn → Int → AV) : G
  | [.p (.many [.w .u64 a, .w .u64 b]), .p (.one (.v (.int .i64 n)))], [] => some (F ⟨a, b⟩ n, [])
  | _, _ => none
def gTIB (F : Tn → Int → Bool → AV) : G
  | [.p (.many [.w .u64 a, .w .u64 b]), .p (.one (.v (.int .i64 n))), .p (.one (.v (.bool w)))], [] => some (F ⟨a, b⟩ n w, [])
  | _, _ => none
def gU (F : BitVec 64 → AV) : G
  | [.p (.one (.w .u64 n))], [] => some (F n, [])
  | _, _ => none
def gUU (F : BitVec 64 → BitVec 64 → AV) : G
  | [.p (.one (.w .u64 n)), .p (.one (.w .u64 m))], [] => some (F n m, [])
  | _, _ => none
/-- two ints, the second one not 0 -/
def gII (F : Int → Int → AV) : G
  | [.p (.one (.v (.int .i64 n))), .p (.one (.v (.int .i64 m)))], [] => bif decide (m = 0) then none else some (F n m, [])
  | _, _ => none

variable {args : List AV} {H H' : Hp} {v : AV}
theorem g0_inv {F : AV} (h : g0 F args H = some (v, H')) : args = [] ∧ H = [] ∧ v = F ∧ H' = [] := by
  unfold g0 at h; split at h
  · cases h; exact ⟨rfl, rfl, rfl, rfl⟩
  · cases h
theorem gT_inv {F : Tn → AV} (h : gT F args H = some (v, H')) : ∃ a b, args = [tA ⟨a, b⟩] ∧ H = [] ∧ v = F ⟨a, b⟩ ∧ H' = [] := by
  unfold gT at h; split at h
  · cases h; exact ⟨_, _, rfl, rfl, rfl, rfl⟩
  · cases h
theorem gTT_inv {F : Tn → Tn → AV} (h : gTT F args H = some (v, H')) : ∃ a b c d, args = [tA ⟨a, b⟩, tA ⟨c, d⟩] ∧ H = [] ∧ v = F ⟨a, b⟩ ⟨c, d⟩ ∧ H' = [] := by
  unfold gTT at h; split at h
  · cases h; exact ⟨_, _, _, _, rfl, rfl, rfl, rfl⟩
  · cases h
theorem gP_inv {F : Tn → Tn → AV} (h : gP F args H = some (v, H')) : ∃ a b c d, args = [pA ⟨a, b⟩ ⟨c, d⟩] ∧ H = [] ∧ v = F ⟨a, b⟩ ⟨c, d⟩ ∧ H' = [] := by
  unfold gP at h; split at h
  · cases h; exact ⟨_, _, _, _, rfl, rfl, rfl, rfl⟩
  · cases h
theorem gTU_inv {F : Tn → BitVec 64 → AV} (h : gTU F args H = some (v, H')) : ∃ a b n, args = [tA ⟨a, b⟩, uA n] ∧ H = [] ∧ v = F ⟨a, b⟩ n ∧ H' = [] := by
  unfold gTU at h; split at h
  · cases h; exact ⟨_, _, _, rfl, rfl, rfl, rfl⟩
  · cases h
theorem gTI_inv {F : Tn → Int → AV} (h : gTI F args H = some (v, H')) : ∃ a b n, args = [tA ⟨a, b⟩, iA n] ∧ H = [] ∧ v = F ⟨a, b⟩ n ∧ H' = [] := by
  unfold gTI at h; split at h
  · cases h; exact ⟨_, _, _, rfl, rfl, rfl, rfl⟩
  · cases h
theorem gTIB_inv {F : Tn → Int → Bool → AV} (h : gTIB F args H = some (v, H')) : ∃ a b n w, args = [tA ⟨a, b⟩, iA n, bA w] ∧ H = [] ∧ v = F ⟨a, b⟩ n w ∧ H' = [] := by
  unfold gTIB at h; split at h
  · cases h; exact ⟨_, _, _, _, rfl, rfl, rfl, rfl⟩
  · cases h
theorem gU_inv {F : BitVec 64 → AV} (h : gU F args H = some (v, H')) : ∃ n, args = [uA n] ∧ H = [] ∧ v = F n ∧ H' = [] := by
  unfold gU at h; split at h
  · cases h; exact ⟨_, rfl, rfl, rfl, rfl⟩
  · cases h
theorem gUU_inv {F : BitVec 64 → BitVec 64 → AV} (h : gUU F args H = some (v, H')) : ∃ n m, args = [uA n, uA m] ∧ H = [] ∧ v = F n m ∧ H' = [] := by
  unfold gUU at h; split at h
  · cases h; exact ⟨_, _, rfl, rfl, rfl, rfl⟩
  · cases h
theorem gII_inv {F : Int → Int → AV} (h : gII F args H = some (v, H')) : ∃ n m, args = [iA n, iA m] ∧ H = [] ∧ v = F n m ∧ H' = [] ∧ m ≠ 0 := by
  unfold gII at h; split at h
  · rename_i n m
    by_cases hm : m = 0
    · simp [hm] at h
    · simp only [hm, decide_false, cond_false] at h
      cases h; exact ⟨_, _, rfl, rfl, rfl, rfl, hm⟩
  · cases h
end

/-! ### Tables of contracts -/
def lk : List (Nat × Summ) → FuncId → Option Summ
  | [], _ => none
  | (k, s) :: l, f => bif Nat.beq k f then some s else lk l f

theorem lk_nil (K : Know) (P : Program) : TOk K P (lk []) := fun _ _ h => by cases h
theorem lk_cons {K : Know} {P : Program} {f : FuncId} {s : Summ} {l : List (Nat × Summ)} (h : SummOk K P f s) (hl : TOk K P (lk l)) : TOk K P (lk ((f, s) :: l)) := fun k x hx => by
  simp only [lk] at hx
  cases hb : Nat.beq f k with
  | true =>
    rw [hb] at hx
    simp only [cond_true, Option.some.injEq] at hx
    rw [← Nat.eq_of_beq_eq_true hb, ← hx]; exact h
  | false => rw [hb] at hx; exact hl k x hx

/-- A contract of the kit's own, of a function that names no object and turns nothing. -/
theorem summ_of_same {K : Know} {P : Program} {f : FuncId} {g : G} (hf : ∃ fn, P.funcs[f]? = some fn ∧ (fn.name == "runtime.NumGoroutine") = false ∧ fn.body.isNone = false)
    (h : ∀ args H v H', g args H = some (v, H') → H = [] ∧ H' = [] ∧ v.lt 0 ∧ ∀ (r : Sy.Loc) (w : World), K.ok w → Calls P f (args.map (AV.den r)).toArray w fun e w' => e = .returned (v.den r) ∧ w' = w) : SummOk K P f (sm [] g) := by
  refine .inr ⟨hf, fun r args H H' v w hg _ _ _ _ _ hk _ => ?_⟩
  obtain ⟨rfl, rfl, hv, hc⟩ := h args H v H' hg
  refine (hc r w hk).mono ?_
  rintro e w' ⟨rfl, rfl⟩
  exact ⟨rfl, fun j l hj => by simp at hj, Fr.refl _ _, rfl, hv⟩

theorem wrap_i64_small {n : Int} (h0 : -9223372036854775808 ≤ n) (h1 : n ≤ 9223372036854775807) : IntKind.i64.wrap n = n := by
  rw [IntKind.wrap_i64]; omega

theorem times_range {n m : Int} (h0 : 0 < m) (h1 : m ≤ 1000000) : 0 ≤ times n m ∧ times n m < m := by
  have a1 := Int.lt_tmod_of_pos n h0
  have a2 := Int.tmod_lt_of_pos n h0
  unfold times
  rw [wrap_i64_small (by omega) (by omega)]
  exact ⟨Int.tmod_nonneg _ (by omega), Int.tmod_lt_of_pos _ h0⟩

theorem times_neg {n m : Int} (h0 : 0 < m) (h1 : m ≤ 1000000) : decide (times n m < 0) = false := by
  have := (times_range (n := n) h0 h1).1
  simp; omega

/-! ### Parameters -/
theorem FA_T {sh : List Sh} {l : List AV} (h : FA (.many [.i .u64, .i .u64] :: sh) l) : ∃ (A : Tn) (l' : List AV), l = tA A :: l' ∧ FA sh l' := by
  obtain ⟨cs, l', rfl, h1, h2⟩ := FA_many h
  obtain ⟨a, m1, rfl, h3⟩ := CK_u rfl h1
  obtain ⟨b, m2, rfl, h4⟩ := CK_u rfl h3
  cases CK_nil h4
  exact ⟨⟨a, b⟩, l', rfl, h2⟩
theorem FA_U {sh : List Sh} {l : List AV} (h : FA (.one (.i .u64) :: sh) l) : ∃ (n : BitVec 64) (l' : List AV), l = uA n :: l' ∧ FA sh l' := by
  obtain ⟨c, l', rfl, h1, h2⟩ := FA_one h
  obtain ⟨a, rfl⟩ := CK1_u rfl h1
  exact ⟨a, l', rfl, h2⟩
theorem FA_I {sh : List Sh} {l : List AV} (h : FA (.one (.i .i64) :: sh) l) : ∃ (n : Int) (l' : List AV), l = iA n :: l' ∧ FA sh l' := by
  obtain ⟨c, l', rfl, h1, h2⟩ := FA_one h
  obtain ⟨a, rfl, _⟩ := CK1_s rfl h1
  exact ⟨a, l', rfl, h2⟩
theorem FA_B {sh : List Sh} {l : List AV} (h : FA (.one .b :: sh) l) : ∃ (n : Bool) (l' : List AV), l = bA n :: l' ∧ FA sh l' := by
  obtain ⟨c, l', rfl, h1, h2⟩ := FA_one h
  obtain ⟨a, rfl⟩ := CK1_b h1
  exact ⟨a, l', rfl, h2⟩
theorem FA_UU {sh : List Sh} {l : List AV} (h : FA (.many [.i .u64, .i .u64] :: sh) l) : ∃ (a b : BitVec 64) (l' : List AV), l = .p (.many [.w .u64 a, .w .u64 b]) :: l' ∧ FA sh l' := by
  obtain ⟨A, l', rfl, h2⟩ := FA_T h
  exact ⟨A.v, A.m, l', rfl, h2⟩

end Go.Tn
