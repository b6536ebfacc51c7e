/-
  Scalars: no number is lost by an operation.
-/
import Derived.Test.YtlaaljiffcablaaGreatDoorScQ
namespace Go.Sc
open Go Go.Sy Go.Tn
set_option linter.unusedSimpArgs false
set_option linter.unusedVariables false

/-! ### Signed sums -/
theorem andI_neg (a b : Int) : andI a b < 0 ↔ (9223372036854775808 ≤ (BitVec.ofInt 64 a).toNat ∧ 9223372036854775808 ≤ (BitVec.ofInt 64 b).toNat) := by
  unfold andI
  rw [wrap64 _ (BitVec.isLt _), BitVec.ofNat_toNat, BitVec.setWidth_eq]
  have h := BitVec.msb_and (x := BitVec.ofInt 64 a) (y := BitVec.ofInt 64 b)
  rw [msb_nat, msb_nat, msb_nat] at h
  have h1 := (BitVec.ofInt 64 a &&& BitVec.ofInt 64 b).isLt
  have h2 : (BitVec.ofInt 64 a &&& BitVec.ofInt 64 b).toInt < 0 ↔ 9223372036854775808 ≤ (BitVec.ofInt 64 a &&& BitVec.ofInt 64 b).toNat := by
    rcases toInt_cases (BitVec.ofInt 64 a &&& BitVec.ofInt 64 b) with ⟨c, d⟩ | ⟨c, d⟩ <;> omega
  rw [h2, ← decide_eq_true_iff (p := 9223372036854775808 ≤ (BitVec.ofInt 64 a &&& BitVec.ofInt 64 b).toNat), h]
  simp
theorem wrap_rg (n : Int) : iMin ≤ IntKind.i64.wrap n ∧ IntKind.i64.wrap n ≤ iMax := by
  rw [IntKind.wrap_i64]; simp only [iMin, iMax]; omega
theorem wrap_in {n : Int} (h0 : iMin ≤ n) (h1 : n ≤ iMax) : IntKind.i64.wrap n = n := by
  rw [IntKind.wrap_i64]; simp only [iMin, iMax] at *; omega
theorem xorI_rg (a b : Int) : iMin ≤ xorI a b ∧ xorI a b ≤ iMax := wrap_rg _
theorem neg_nat {a : Int} (h0 : iMin ≤ a) (h1 : a ≤ iMax) : 9223372036854775808 ≤ (BitVec.ofInt 64 a).toNat ↔ a < 0 := by
  have := ofInt_nat h0 h1
  simp only [iMin, iMax] at *
  split at this <;> omega
theorem ovA_no {a b : Int} (ha : iMin ≤ a ∧ a ≤ iMax) (hb : iMin ≤ b ∧ b ≤ iMax) : ovA a b = false ↔ (iMin ≤ a + b ∧ a + b ≤ iMax) := by
  unfold ovA
  have hc := wrap_rg (a + b)
  have e : addI a b = IntKind.i64.wrap (a + b) := rfl
  rw [← e] at hc
  rw [decide_eq_false_iff_not, andI_neg, neg_nat (xorI_rg _ _).1 (xorI_rg _ _).2, neg_nat (xorI_rg _ _).1 (xorI_rg _ _).2]
  have h1 := xorI_sign ha.1 ha.2 hc.1 hc.2
  have h2 := xorI_sign hb.1 hb.2 hc.1 hc.2
  have h3 : addI a b = (a + b + 9223372036854775808) % 18446744073709551616 - 9223372036854775808 := by
    unfold addI; rw [IntKind.wrap_i64]
  simp only [iMin, iMax] at *
  omega
theorem ovS_no {a b : Int} (ha : iMin ≤ a ∧ a ≤ iMax) (hb : iMin ≤ b ∧ b ≤ iMax) : ovS a b = false ↔ (iMin ≤ a - b ∧ a - b ≤ iMax) := by
  unfold ovS
  have hc := wrap_rg (a - b)
  have e : subI a b = IntKind.i64.wrap (a - b) := rfl
  rw [← e] at hc
  rw [decide_eq_false_iff_not, andI_neg, neg_nat (xorI_rg _ _).1 (xorI_rg _ _).2, neg_nat (xorI_rg _ _).1 (xorI_rg _ _).2]
  have h1 := xorI_sign ha.1 ha.2 hb.1 hb.2
  have h2 := xorI_sign ha.1 ha.2 hc.1 hc.2
  have h3 : subI a b = (a - b + 9223372036854775808) % 18446744073709551616 - 9223372036854775808 := by
    unfold subI; rw [IntKind.wrap_i64]
  simp only [iMin, iMax] at *
  omega
theorem toInt_add' {x y : BitVec 64} (h0 : iMin ≤ x.toInt + y.toInt) (h1 : x.toInt + y.toInt ≤ iMax) : (x + y).toInt = x.toInt + y.toInt := by
  have h := BitVec.toNat_add x y
  simp only [iMin, iMax] at *
  rcases toInt_cases x with ⟨a, b⟩ | ⟨a, b⟩ <;> rcases toInt_cases y with ⟨c, d⟩ | ⟨c, d⟩ <;> rcases toInt_cases (x + y) with ⟨e, f⟩ | ⟨e, f⟩ <;> omega
theorem toInt_sub' {x y : BitVec 64} (h0 : iMin ≤ x.toInt - y.toInt) (h1 : x.toInt - y.toInt ≤ iMax) : (x - y).toInt = x.toInt - y.toInt := by
  have h := BitVec.toNat_sub x y
  have := x.isLt
  have := y.isLt
  simp only [iMin, iMax] at *
  rcases toInt_cases x with ⟨a, b⟩ | ⟨a, b⟩ <;> rcases toInt_cases y with ⟨c, d⟩ | ⟨c, d⟩ <;> rcases toInt_cases (x - y) with ⟨e, f⟩ | ⟨e, f⟩ <;> omega

theorem base_has {t : Tn} (h : ok t = true) {n : BitVec 64} (hn : Mem t n) : Has (base t) n :=
  ⟨h, hn, (all_has n).u, (all_has n).U, (all_has n).s, (all_has n).S⟩
theorem base_rg (t : Tn) : Rg (base t) := ⟨all_rg.a, all_rg.b, all_rg.c, all_rg.d⟩

/-- Both a number and the signed range within. -/
structure HR (k : Sc) (n : BitVec 64) : Prop where
  has : Has k n
  rg : Rg k
theorem base_hr {t : Tn} (h : ok t = true) {n : BitVec 64} (hn : Mem t n) : HR (base t) n := ⟨base_has h hn, base_rg t⟩
theorem HR.setU {k : Sc} {n x y : BitVec 64} (h : HR k n) (h1 : x.toNat ≤ n.toNat) (h2 : n.toNat ≤ y.toNat) : HR (setU k x y) n :=
  ⟨⟨h.has.ok, h.has.t, h1, h2, h.has.s, h.has.S⟩, ⟨h.rg.a, h.rg.b, h.rg.c, h.rg.d⟩⟩
theorem HR.setS {k : Sc} {n : BitVec 64} {x y : Int} (h : HR k n) (h1 : x ≤ n.toInt) (h2 : n.toInt ≤ y) (a : iMin ≤ x) (d : y ≤ iMax) : HR (setS k x y) n :=
  ⟨⟨h.has.ok, h.has.t, h.has.u, h.has.U, h1, h2⟩, ⟨a, by have := toInt_rg n; exact Int.le_trans h1 this.2, by have := toInt_rg n; exact Int.le_trans this.1 h2, d⟩⟩

section
variable {a b : Sc} {x y : BitVec 64}
theorem Has.lt (_ : Has a x) : a.u.toNat < 18446744073709551616 ∧ a.U.toNat < 18446744073709551616 := ⟨a.u.isLt, a.U.isLt⟩

theorem sums_hr {k : Sc} (ra : Rg a) (rb : Rg b) (hx : Has a x) (hy : Has b y) (hk : HR k (x + y)) : HR (sums a b k) (x + y) := by
  have h1 := hx.u; have h2 := hx.U; have h3 := hy.u; have h4 := hy.U
  have hU : HR (sumsU a b k) (x + y) := by
    unfold sumsU
    by_cases hc : a.U.toNat + b.U.toNat < 18446744073709551616
    · rw [decide_eq_true hc]
      refine hk.setU ?_ ?_
      · rw [BitVec.toNat_add, BitVec.toNat_add]; omega
      · rw [BitVec.toNat_add, BitVec.toNat_add]; omega
    · rw [decide_eq_false hc]; exact hk
  unfold sums sumsI
  cases hs : ovA a.s b.s with
  | true => exact hU
  | false =>
    cases hS : ovA a.S b.S with
    | true => exact hU
    | false =>
      have c1 := (ovA_no ⟨ra.a, ra.b⟩ ⟨rb.a, rb.b⟩).1 hs
      have c2 := (ovA_no ⟨ra.c, ra.d⟩ ⟨rb.c, rb.d⟩).1 hS
      have d1 := hx.s; have d2 := hx.S; have d3 := hy.s; have d4 := hy.S
      have e := toInt_add' (x := x) (y := y) (by omega) (by omega)
      refine hU.setS ?_ ?_ ?_ ?_
      · unfold addI; rw [wrap_in c1.1 c1.2]; omega
      · unfold addI; rw [wrap_in c2.1 c2.2]; omega
      · unfold addI; exact (wrap_rg _).1
      · unfold addI; exact (wrap_rg _).2
theorem rests_hr {k : Sc} (ra : Rg a) (rb : Rg b) (hx : Has a x) (hy : Has b y) (hk : HR k (x - y)) : HR (rests a b k) (x - y) := by
  have h1 := hx.u; have h2 := hx.U; have h3 := hy.u; have h4 := hy.U
  have l1 := a.U.isLt; have l2 := b.U.isLt; have l3 := x.isLt; have l4 := y.isLt
  have hU : HR (restsU a b k) (x - y) := by
    unfold restsU
    cases hc : BitVec.ule b.U a.u with
    | true =>
      have hc := ule_iff.1 hc
      refine hk.setU ?_ ?_
      · rw [BitVec.toNat_sub, BitVec.toNat_sub]; omega
      · rw [BitVec.toNat_sub, BitVec.toNat_sub]; omega
    | false => exact hk
  unfold rests restsI
  cases hs : ovS a.s b.S with
  | true => exact hU
  | false =>
    cases hS : ovS a.S b.s with
    | true => exact hU
    | false =>
      have c1 := (ovS_no ⟨ra.a, ra.b⟩ ⟨rb.c, rb.d⟩).1 hs
      have c2 := (ovS_no ⟨ra.c, ra.d⟩ ⟨rb.a, rb.b⟩).1 hS
      have d1 := hx.s; have d2 := hx.S; have d3 := hy.s; have d4 := hy.S
      have e := toInt_sub' (x := x) (y := y) (by omega) (by omega)
      refine hU.setS ?_ ?_ ?_ ?_
      · unfold subI; rw [wrap_in c1.1 c1.2]; omega
      · unfold subI; rw [wrap_in c2.1 c2.2]; omega
      · unfold subI; exact (wrap_rg _).1
      · unfold subI; exact (wrap_rg _).2
theorem products_hr {k : Sc} (hx : Has a x) (hy : Has b y) (hk : HR k (x * y)) : HR (products a b k) (x * y) := by
  have h1 := hx.u; have h2 := hx.U; have h3 := hy.u; have h4 := hy.U
  unfold products
  by_cases hc : a.U.toNat * b.U.toNat < 18446744073709551616
  · rw [decide_eq_true hc]
    have m1 := Nat.mul_le_mul h1 h3
    have m2 := Nat.mul_le_mul h2 h4
    refine hk.setU ?_ ?_
    · rw [BitVec.toNat_mul, BitVec.toNat_mul, Nat.mod_eq_of_lt (by omega), Nat.mod_eq_of_lt (by omega)]; exact m1
    · rw [BitVec.toNat_mul, BitVec.toNat_mul, Nat.mod_eq_of_lt (by omega), Nat.mod_eq_of_lt (by omega)]; exact m2
  · rw [decide_eq_false hc]; exact hk
end

theorem times_of {n : Int} (h0 : 0 ≤ n) (h1 : n < 64) : times n 64 = n := by
  unfold times
  have e : n.tmod 64 = n := by rw [Int.tmod_eq_emod_of_nonneg h0]; omega
  rw [e, wrap_in (by simp only [iMin]; omega) (by simp only [iMax]; omega), Int.tmod_eq_emod_of_nonneg (by omega)]; omega
theorem times_of32 {n : Int} (h0 : 0 ≤ n) (h1 : n < 32) : times n 32 = n := by
  unfold times
  have e : n.tmod 32 = n := by rw [Int.tmod_eq_emod_of_nonneg h0]; omega
  rw [e, wrap_in (by simp only [iMin]; omega) (by simp only [iMax]; omega), Int.tmod_eq_emod_of_nonneg (by omega)]; omega

theorem shL_hr {a : Sc} {x : BitVec 64} (hx : Has a x) {n : Int} (h0 : 0 ≤ n) (h1 : n < 64) : HR (shL a n all) (x <<< n.toNat) := by
  have e := times_of h0 h1
  have hok := (lsh_op n).good a.t hx.ok
  have hm := (lsh_op n).sound a.t hx.ok x hx.t
  rw [e] at hm
  have hb := base_hr hok hm
  unfold shL
  cases hc : BitVec.ule a.U (full >>> n.toNat) with
  | false => exact hb
  | true =>
    have hc := ule_iff.1 hc
    obtain ⟨k, rfl⟩ := Int.eq_ofNat_of_zero_le h0
    simp only [Int.toNat_natCast] at *
    have hk : k < 64 := by omega
    rw [BitVec.toNat_ushiftRight, Nat.shiftRight_eq_div_pow] at hc
    have ef : full.toNat = 18446744073709551615 := by decide
    rw [ef] at hc
    have hp : 0 < 2 ^ k := Nat.pow_pos (by decide)
    have hUk : a.U.toNat * 2 ^ k < 2 ^ 64 := by
      have h2 : a.U.toNat * 2 ^ k ≤ 18446744073709551615 / 2 ^ k * 2 ^ k := Nat.mul_le_mul_right _ hc
      have h3 := Nat.div_mul_le_self 18446744073709551615 (2 ^ k)
      omega
    have m1 := Nat.mul_le_mul_right (2 ^ k) hx.u
    have m2 := Nat.mul_le_mul_right (2 ^ k) hx.U
    refine hb.setU ?_ ?_
    · rw [BitVec.toNat_shiftLeft, BitVec.toNat_shiftLeft, Nat.shiftLeft_eq, Nat.shiftLeft_eq, Nat.mod_eq_of_lt (by omega), Nat.mod_eq_of_lt (by omega)]; exact m1
    · rw [BitVec.toNat_shiftLeft, BitVec.toNat_shiftLeft, Nat.shiftLeft_eq, Nat.shiftLeft_eq, Nat.mod_eq_of_lt (by omega), Nat.mod_eq_of_lt (by omega)]; exact m2
theorem shR_hr {a : Sc} {x : BitVec 64} (hx : Has a x) {n : Int} (h0 : 0 ≤ n) (h1 : n < 64) : HR (shR a n all) (x >>> n.toNat) := by
  have e := times_of h0 h1
  have hok := (rsh_op n).good a.t hx.ok
  have hm := (rsh_op n).sound a.t hx.ok x hx.t
  rw [e] at hm
  have hb := base_hr hok hm
  refine hb.setU ?_ ?_
  · rw [BitVec.toNat_ushiftRight, BitVec.toNat_ushiftRight, Nat.shiftRight_eq_div_pow, Nat.shiftRight_eq_div_pow]; exact Nat.div_le_div_right hx.u
  · rw [BitVec.toNat_ushiftRight, BitVec.toNat_ushiftRight, Nat.shiftRight_eq_div_pow, Nat.shiftRight_eq_div_pow]; exact Nat.div_le_div_right hx.U
theorem fdiv_mono {a b c : Int} (hc : 0 < c) (h : a ≤ b) : a.fdiv c ≤ b.fdiv c := by
  rw [Int.fdiv_eq_ediv_of_nonneg _ (Int.le_of_lt hc), Int.fdiv_eq_ediv_of_nonneg _ (Int.le_of_lt hc)]
  exact Int.ediv_le_ediv hc h
theorem fdiv_rg {a c : Int} (hc : 0 < c) (h : iMin ≤ a ∧ a ≤ iMax) : iMin ≤ a.fdiv c ∧ a.fdiv c ≤ iMax := by
  rw [Int.fdiv_eq_ediv_of_nonneg _ (Int.le_of_lt hc)]
  simp only [iMin, iMax] at *
  refine ⟨?_, ?_⟩
  · rw [Int.le_ediv_iff_mul_le hc]
    have : -9223372036854775808 * c ≤ -9223372036854775808 * 1 := Int.mul_le_mul_of_nonpos_left (by omega) (by omega)
    omega
  · have h1 : 9223372036854775808 * 1 ≤ 9223372036854775808 * c := Int.mul_le_mul_of_nonneg_left (by omega) (by omega)
    have := Int.ediv_lt_of_lt_mul (a := a) (b := 9223372036854775808) hc (by omega)
    omega
theorem shA_hr {a : Sc} {x : BitVec 64} (ra : Rg a) (hx : Has a x) {n : Int} (h0 : 0 ≤ n) (h1 : n < 64) : HR (shA a n all) (sar64 x n.toNat) := by
  have e := times_of h0 h1
  have hok := (arsh_op64 n).good a.t hx.ok
  have hm := (arsh_op64 n).sound a.t hx.ok x hx.t
  rw [e] at hm
  have hb := base_hr hok hm
  have hp : (0 : Int) < 2 ^ (min n.toNat 64) := by
    have : (0 : Nat) < 2 ^ (min n.toNat 64) := Nat.pow_pos (by decide)
    have e : ((2 : Int) ^ (min n.toNat 64)) = ((2 ^ (min n.toNat 64) : Nat) : Int) := by simp
    rw [e]; omega
  have ex : (sar64 x n.toNat).toInt = x.toInt.fdiv (2 ^ (min n.toNat 64)) := by
    unfold sar64
    have := fdiv_rg hp (toInt_rg x)
    exact ofInt_toInt' this.1 this.2
  refine hb.setS ?_ ?_ ?_ ?_
  · rw [ex]; exact fdiv_mono hp hx.s
  · rw [ex]; exact fdiv_mono hp hx.S
  · exact (fdiv_rg hp ⟨ra.a, ra.b⟩).1
  · exact (fdiv_rg hp ⟨ra.c, ra.d⟩).2

/-! ### All operations of 64 bits -/
theorem umod_range (y : BitVec 64) (m : Nat) (hm : 0 < m) (hm' : m < 2 ^ 63) : 0 ≤ (y % BitVec.ofInt 64 m).toInt ∧ (y % BitVec.ofInt 64 m).toInt < m ∧ (y % BitVec.ofInt 64 m).toInt.toNat = (y % BitVec.ofInt 64 m).toNat := by
  have e : (BitVec.ofInt 64 (m : Int)).toNat = m := by rw [BitVec.toNat_ofInt]; omega
  have h : (y % BitVec.ofInt 64 m).toNat < m := by
    rw [BitVec.toNat_umod, e]; exact Nat.mod_lt _ hm
  rcases toInt_cases (y % BitVec.ofInt 64 m) with ⟨a, b⟩ | ⟨a, b⟩ <;> omega

theorem const_uniq {k : Sc} (h : Good k) (hc : isConst k = true) {n : BitVec 64} (hn : Has k n) : k = const n := h.const_of hn (isConst_iff.1 hc)

theorem shifts_hr {op : Int} {a : Sc} {x : BitVec 64} (ra : Rg a) (hx : Has a x) {n : Int} (h0 : 0 ≤ n) (h1 : n < 64) :
    HR (shifts op a n all) (bif decide (op = 6) then x <<< n.toNat else bif decide (op = 7) then x >>> n.toNat else sar64 x n.toNat) := by
  unfold shifts
  cases decide (op = 6) with
  | true => exact shL_hr hx h0 h1
  | false =>
    cases decide (op = 7) with
    | true => exact shR_hr hx h0 h1
    | false => exact shA_hr ra hx h0 h1
theorem all_hr (n : BitVec 64) : HR all n := ⟨all_has n, all_rg⟩
theorem zero_le (n : BitVec 64) : zW.toNat ≤ n.toNat := by have : zW.toNat = 0 := by decide
                                                           omega
theorem le_full (n : BitVec 64) : n.toNat ≤ full.toNat := (all_has n).U

theorem divs_hr {a b : Sc} {x y : BitVec 64} (hx : Has a x) (hy : Has b y) : HR (divs a b) (bif y == zW then zW else x / y) := by
  unfold divs
  have h1 := hx.u; have h2 := hx.U; have h3 := hy.u; have h4 := hy.U
  have hz : zW.toNat = 0 := by decide
  cases hb : BitVec.ult zW b.u with
  | true =>
    have hb := ult_iff.1 hb
    have hne : (y == zW) = false := by
      rw [beq_eq_false_iff_ne]; rintro rfl; omega
    rw [hne]
    refine (all_hr _).setU ?_ ?_
    · show (a.u / b.U).toNat ≤ (x / y).toNat
      rw [BitVec.toNat_udiv, BitVec.toNat_udiv]
      exact Nat.le_trans (Nat.div_le_div_right h1) (Nat.div_le_div_left h4 (by omega))
    · show (x / y).toNat ≤ (a.U / b.u).toNat
      rw [BitVec.toNat_udiv, BitVec.toNat_udiv]
      exact Nat.le_trans (Nat.div_le_div_right h2) (Nat.div_le_div_left h3 (by omega))
  | false =>
    refine (all_hr _).setU (zero_le _) ?_
    cases hne : (y == zW) with
    | true => show zW.toNat ≤ _; omega
    | false =>
      show (x / y).toNat ≤ _
      rw [BitVec.toNat_udiv]
      exact Nat.le_trans (Nat.div_le_self _ _) h2
theorem mods_hr {a b : Sc} {x y : BitVec 64} (hx : Has a x) (hy : Has b y) : HR (mods a b) (bif y == zW then x else x % y) := by
  unfold mods
  have h1 := hx.u; have h2 := hx.U; have h3 := hy.u; have h4 := hy.U
  have hz : zW.toNat = 0 := by decide
  cases hb : BitVec.ult zW b.u with
  | true =>
    have hb := ult_iff.1 hb
    have hne : (y == zW) = false := by
      rw [beq_eq_false_iff_ne]; rintro rfl; omega
    rw [hne]
    refine (all_hr _).setU (zero_le _) ?_
    rw [minU_nat]
    show (x % y).toNat ≤ _
    have e1 : (b.U - BitVec.ofInt 64 1).toNat = b.U.toNat - 1 := by
      have : (BitVec.ofInt 64 1).toNat = 1 := by decide
      have := b.U.isLt
      rw [BitVec.toNat_sub]; omega
    rw [BitVec.toNat_umod, e1]
    have m1 := Nat.mod_le x.toNat y.toNat
    have m2 := Nat.mod_lt x.toNat (y := y.toNat) (by omega)
    omega
  | false =>
    refine (all_hr _).setU (zero_le _) ?_
    cases hne : (y == zW) with
    | true => exact h2
    | false =>
      show (x % y).toNat ≤ _
      rw [BitVec.toNat_umod]
      exact Nat.le_trans (Nat.mod_le _ _) h2

def opN (op : Int) : Prop := op = 0 ∨ op = 1 ∨ op = 2 ∨ op = 3 ∨ op = 4 ∨ op = 5 ∨ op = 6 ∨ op = 7 ∨ op = 8 ∨ op = 9 ∨ op = 10 ∨ op = 12
theorem opOk_cases {op : Int} (h : opOk op = true) : op = 11 ∨ opN op := by
  unfold opOk at h
  by_cases h1 : op < 0
  · simp [h1] at h
  · simp only [h1, decide_false, cond_false, Bool.not_eq_true', decide_eq_false_iff_not] at h
    unfold opN
    omega

theorem sh64_hr {op : Int} {a b : Sc} {x y : BitVec 64} (ra : Rg a) (gb : Good b) (hx : Has a x) (hy : Has b y) (ho : op = 6 ∨ op = 7 ∨ op = 12) : HR (sh64 op a b) (opf op 64 x y) := by
  unfold sh64
  cases hc : isConst b with
  | true =>
    have e : b.u = y := by rw [const_uniq gb hc hy]; rfl
    obtain ⟨m1, m2, m3⟩ := umod_range y 64 (by decide) (by decide)
    have := shifts_hr (op := op) ra hx (n := (y % BitVec.ofInt 64 64).toInt) m1 (by exact m2)
    rw [e]
    have m3 : (y % BitVec.ofInt 64 64).toInt.toNat = (y % BitVec.ofInt 64 64).toNat := m3
    rw [m3] at this
    rcases ho with rfl | rfl | rfl <;> exact this
  | false =>
    rcases ho with rfl | rfl | rfl
    · exact all_hr _
    · refine (all_hr _).setU (zero_le _) ?_
      show (x >>> (y % BitVec.ofInt 64 64).toNat).toNat ≤ _
      rw [BitVec.toNat_ushiftRight, Nat.shiftRight_eq_div_pow]
      exact Nat.le_trans (Nat.div_le_self _ _) hx.U
    · exact all_hr _

theorem whole_hr {op : Int} {a b : Sc} {x y : BitVec 64} (ga : Good a) (gb : Good b) (hx : Has a x) (hy : Has b y) (ho : opN op) : HR (whole op a b) (opf op 64 x y) := by
  have ha := hx.ok; have hb := hy.ok
  rcases ho with rfl | rfl | rfl | rfl | rfl | rfl | rfl | rfl | rfl | rfl | rfl | rfl
  · exact sums_hr ga.rg gb.rg hx hy (base_hr (add_ok ha hb) (mem_add ha hb hx.t hy.t))
  · exact rests_hr ga.rg gb.rg hx hy (base_hr (sub_op.good _ _ ha hb) (sub_op.sound _ _ ha hb _ _ hx.t hy.t))
  · refine products_hr hx hy (base_hr (mul_ok _ _) ?_)
    rw [mul_eq ha hb]; exact mul'_mem ha hb hx.t hy.t
  · exact divs_hr hx hy
  · refine (base_hr (or_op.good _ _ ha hb) (or_op.sound _ _ ha hb _ _ hx.t hy.t)).setU ?_ (le_full _)
    rw [maxU_nat]
    show _ ≤ (x ||| y).toNat
    rw [BitVec.toNat_or]
    have h1 := hx.u; have h3 := hy.u
    have h5 := Nat.left_le_or (n := x.toNat) (m := y.toNat)
    have h6 := Nat.right_le_or (n := x.toNat) (m := y.toNat)
    omega
  · refine (base_hr (and_op.good _ _ ha hb) (and_op.sound _ _ ha hb _ _ hx.t hy.t)).setU (zero_le _) ?_
    rw [minU_nat]
    show (x &&& y).toNat ≤ _
    rw [BitVec.toNat_and]
    have h1 := hx.U; have h3 := hy.U
    have h5 := Nat.and_le_left (n := x.toNat) (m := y.toNat)
    have h6 := Nat.and_le_right (n := x.toNat) (m := y.toNat)
    omega
  · exact sh64_hr ga.rg gb hx hy (.inl rfl)
  · exact sh64_hr ga.rg gb hx hy (.inr (.inl rfl))
  · have := rests_hr (const_rg zW) ga.rg (const_has.2 rfl) hx (base_hr (sub_op.good _ _ (const_ok zW) ha) (sub_op.sound _ _ (const_ok zW) ha _ _ (mem_const zW) hx.t))
    have e : zW - x = -x := by simp
    rw [e] at this
    exact this
  · exact mods_hr hx hy
  · exact base_hr (xor_op.good _ _ ha hb) (xor_op.sound _ _ ha hb _ _ hx.t hy.t)
  · exact sh64_hr ga.rg gb hx hy (.inr (.inr rfl))

/-- What is brought together of HR is good and has it. -/
theorem HR.synced {k : Sc} {n : BitVec 64} (h : HR k n) : Good (synced k) ∧ Has (synced k) n ∧ Sub (synced k) k := by
  obtain ⟨t, _, h2, h3, h4, h5⟩ := synced_has h.rg h.has
  rw [h2]; exact ⟨h3, h4, h5⟩
theorem synced_good {k : Sc} (r : Rg k) : Good (synced k) := by
  unfold synced
  cases h : sync k with
  | none => exact all_good
  | some t => exact ⟨(sync_some k h).1, sync_rg k r t h⟩

/-! ### The lowest 32 bits -/
theorem lo_nat (x : BitVec 64) : (lo x).toNat = x.toNat % 4294967296 := by
  rw [← mod_lo, BitVec.toNat_umod]; rfl
theorem low_rg (k : Sc) : Rg (bif BitVec.ule k.U max32 then ⟨Tn.low k.t, k.u, k.U, iMin, iMax⟩ else ⟨Tn.low k.t, zW, full, iMin, iMax⟩) := by
  cases BitVec.ule k.U max32 <;> exact ⟨all_rg.a, all_rg.b, all_rg.c, all_rg.d⟩
theorem low_good (k : Sc) : Good (low k) := synced_good (low_rg k)
theorem low_hr {k : Sc} {x : BitVec 64} (h : Has k x) : Has (low k) (lo x) ∧ Sub (low k) (bif BitVec.ule k.U max32 then ⟨Tn.low k.t, k.u, k.U, iMin, iMax⟩ else ⟨Tn.low k.t, zW, full, iMin, iMax⟩) := by
  have hok := low_op.good k.t h.ok
  have hm := low_op.sound k.t h.ok x h.t
  have hb := base_hr hok hm
  unfold low
  cases hc : BitVec.ule k.U max32 with
  | false => exact hb.synced.2
  | true =>
    have hc := ule_iff.1 hc
    have e : max32.toNat = 4294967295 := by decide
    have h1 := h.u; have h2 := h.U
    exact (hb.setU (x := k.u) (y := k.U) (by rw [lo_nat]; omega) (by rw [lo_nat]; omega)).synced.2
theorem lo_lo (x : BitVec 64) : lo (lo x) = lo x := BitVec.eq_of_toNat_eq (by rw [lo_nat, lo_nat]; omega)
theorem sar32_lo (x : BitVec 64) (n : Nat) : lo (sar32 x n) = sar32 x n := by
  refine BitVec.eq_of_toNat_eq ?_
  rw [lo_nat]
  unfold sar32
  rw [BitVec.toNat_setWidth]
  have := ((BitVec.ofInt 32 ((IntKind.i32.wrap (x.toNat : Int)).fdiv (2 ^ (min n 32))))).isLt
  omega

theorem part'_hr {op : Int} {a b : Sc} {x y : BitVec 64} (ga : Good a) (gb : Good b) (hx : Has a x) (hy : Has b y) (ho : opN op) (hx0 : lo x = x) (hy0 : lo y = y) : HR (part' op a b) (lo (opf op 32 x y)) := by
  have main : ∀ k n, HR k n → HR (low (synced k)) (lo n) := fun k n hk => ⟨(low_hr hk.synced.2.1).1, (low_good _).rg⟩
  have hsh : op = 6 ∨ op = 7 ∨ op = 12 → HR (part' op a b) (lo (opf op 32 x y)) := fun hs => by
    unfold part'
    have e0 : isSh op = true := by rcases hs with rfl | rfl | rfl <;> rfl
    rw [e0]
    cases hc : isConst b with
    | false => exact (⟨(low_hr (all_has _)).1, (low_good all).rg⟩ : HR (low all) _)
    | true =>
      have e : b.u = y := by rw [const_uniq gb hc hy]; rfl
      obtain ⟨m1, m2, m3⟩ := umod_range y 32 (by decide) (by decide)
      have m1 : 0 ≤ (y % BitVec.ofInt 64 32).toInt := m1
      have m2 : (y % BitVec.ofInt 64 32).toInt < 32 := m2
      have m3 : (y % BitVec.ofInt 64 32).toInt.toNat = (y % BitVec.ofInt 64 32).toNat := m3
      rw [e]
      simp only [Bool.not_true, cond_false, cond_true]
      by_cases h12 : op = 12
      · subst h12
        have e1 : opf 12 32 x y = sar32 x (y % BitVec.ofInt 64 32).toNat := rfl
        rw [e1, sar32_lo]
        simp only [decide_true, cond_true]
        have e2 := times_of32 m1 (by exact m2)
        have hok := (arsh_op32 (y % BitVec.ofInt 64 32).toInt).good a.t hx.ok
        have hm := (arsh_op32 (y % BitVec.ofInt 64 32).toInt).sound a.t hx.ok x hx.t
        rw [e2, m3] at hm
        exact base_hr hok hm
      · rw [decide_eq_false h12]
        have h := shifts_hr (op := op) ga.rg hx (n := (y % BitVec.ofInt 64 32).toInt) m1 (by omega)
        rw [m3] at h
        have e1 : (bif decide (op = 6) then x <<< (y % BitVec.ofInt 64 32).toNat else bif decide (op = 7) then x >>> (y % BitVec.ofInt 64 32).toNat else sar64 x (y % BitVec.ofInt 64 32).toNat) = opf op 32 x y := by
          rcases hs with rfl | rfl | rfl
          · rfl
          · rfl
          · exact absurd rfl h12
        rw [e1] at h
        exact main _ _ h
  have hw : isSh op = false → opf op 32 x y = opf op 64 x y → HR (part' op a b) (lo (opf op 32 x y)) := fun e0 e1 => by
    unfold part'
    rw [e0, e1]
    exact main _ _ (whole_hr ga gb hx hy ho)
  rcases ho with h | h | h | h | h | h | h | h | h | h | h | h
  · exact hw (by rw [h]; rfl) (by rw [h]; rfl)
  · exact hw (by rw [h]; rfl) (by rw [h]; rfl)
  · exact hw (by rw [h]; rfl) (by rw [h]; rfl)
  · exact hw (by rw [h]; rfl) (by rw [h]; rfl)
  · exact hw (by rw [h]; rfl) (by rw [h]; rfl)
  · exact hw (by rw [h]; rfl) (by rw [h]; rfl)
  · exact hsh (.inl h)
  · exact hsh (.inr (.inl h))
  · exact hw (by rw [h]; rfl) (by rw [h]; rfl)
  · exact hw (by rw [h]; rfl) (by rw [h]; rfl)
  · exact hw (by rw [h]; rfl) (by rw [h]; rfl)
  · exact hsh (.inr (.inr h))
theorem part_hr {op : Int} {a b : Sc} {x y : BitVec 64} (hx : Has a x) (hy : Has b y) (ho : opN op) : HR (part op a b) (lo (opf op 32 (lo x) (lo y))) :=
  part'_hr (low_good a) (low_good b) (low_hr hx).1 (low_hr hy).1 ho (lo_lo x) (lo_lo y)

theorem alu_wide {op : Int} (h : opOk op = true) (x y : BitVec 64) : alu op true x y = opf op 64 x y := by unfold alu; rw [h]; rfl
theorem alu_part {op : Int} (h : opOk op = true) (x y : BitVec 64) : alu op false x y = lo (opf op 32 (lo x) (lo y)) := by unfold alu; rw [h]; rfl
theorem alu_neg (wide : Bool) (x y z : BitVec 64) : alu 8 wide x y = alu 8 wide x z := by cases wide <;> rfl

/-- An operation's answer is good, and has what it makes of every two numbers. -/
theorem do'_has {op : Int} {wide : Bool} {a b : Sc} {x y : BitVec 64} (ga : Good a) (gb : Good b) (hx : Has a x) (hy : Has b y) (ho : opOk op = true) : Good (do' op wide a b) ∧ Has (do' op wide a b) (alu op wide x y) := by
  unfold do'
  rw [ho]
  simp only [cond_true]
  have kc : ∀ n m, n = m → Good (const m) ∧ Has (const m) n := fun n m h => ⟨const_good m, const_has.2 h⟩
  have rest : Good (bif (bif decide (op = 11) then wide else false) then b else bif decide (op = 11) then low b else bif wide then synced (whole op a b) else synced (part op a b)) ∧
      Has (bif (bif decide (op = 11) then wide else false) then b else bif decide (op = 11) then low b else bif wide then synced (whole op a b) else synced (part op a b)) (alu op wide x y) := by
    rcases opOk_cases ho with rfl | hn
    · cases wide with
      | true => exact ⟨gb, hy⟩
      | false =>
        refine ⟨low_good b, ?_⟩
        have e : alu 11 false x y = lo y := by
          show lo (lo y) = lo y
          exact lo_lo y
        rw [e]; exact (low_hr hy).1
    · have e : decide (op = 11) = false := decide_eq_false (by unfold opN at hn; omega)
      rw [e]
      cases wide with
      | true => rw [alu_wide ho]; have := (whole_hr ga gb hx hy hn).synced; exact ⟨this.1, this.2.1⟩
      | false => rw [alu_part ho]; have := (part_hr hx hy hn).synced; exact ⟨this.1, this.2.1⟩
  cases hca : isConst a with
  | false => simp only [cond_false]; exact rest
  | true =>
    have ea : a.u = x := by rw [const_uniq ga hca hx]; rfl
    cases hcb : isConst b with
    | true =>
      have eb : b.u = y := by rw [const_uniq gb hcb hy]; rfl
      simp only [cond_true]
      exact kc _ _ (by rw [ea, eb])
    | false =>
      by_cases h8 : op = 8
      · subst h8
        simp only [cond_true, cond_false, decide_true]
        exact kc _ _ (by rw [ea]; exact alu_neg _ _ _ _)
      · simp only [cond_true, cond_false, decide_eq_false h8]
        exact rest
theorem doS_eq {op : Int} {wide : Bool} {a b : Sc} (ga : Good a) (gb : Good b) : doS op wide a b = do' op wide a b := by unfold doS; rw [right_of ga.st, right_of gb.st]
end Go.Sc
