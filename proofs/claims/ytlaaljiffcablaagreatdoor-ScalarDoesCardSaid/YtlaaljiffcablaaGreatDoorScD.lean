/-
  Bytes in another order: bits that go to other places.
-/
import Derived.Test.YtlaaljiffcablaaGreatDoorScR
namespace Go.Sc
open Go Go.Sy Go.Tn
set_option linter.unusedVariables false

/-- Bits that go to other places, or are dropped. -/
structure Lin {n k : Nat} (f : BitVec n → BitVec k) : Prop where
  and : ∀ x y, f (x &&& y) = f x &&& f y
  or : ∀ x y, f (x ||| y) = f x ||| f y
  zero : f 0#n = 0#k
theorem Lin.comp {n k l : Nat} {f : BitVec n → BitVec k} {g : BitVec k → BitVec l} (hg : Lin g) (hf : Lin f) : Lin fun x => g (f x) :=
  ⟨fun x y => by rw [hf.and, hg.and], fun x y => by rw [hf.or, hg.or], by rw [hf.zero, hg.zero]⟩
theorem Lin.width (n k : Nat) : Lin (fun x : BitVec n => x.setWidth k) := by
  refine ⟨fun x y => ?_, fun x y => ?_, by simp⟩ <;>
  · apply BitVec.eq_of_getLsbD_eq
    intro i hi
    simp [hi]
theorem Lin.sw {n : Nat} (k : Nat) (m : BitVec n) (hm : ∀ i, i < n → k ≤ i → m.getLsbD i = true → m.getLsbD (i - k) = false) : Lin fun x : BitVec n => ((x >>> k) &&& m) ||| ((x &&& m) <<< k) := by
  refine ⟨fun x y => ?_, fun x y => ?_, by simp⟩ <;>
  · apply BitVec.eq_of_getLsbD_eq
    intro i hi
    have h := hm i hi
    simp only [BitVec.getLsbD_or, BitVec.getLsbD_and, BitVec.getLsbD_ushiftRight, BitVec.getLsbD_shiftLeft, hi, decide_true, Bool.true_and]
    by_cases hk : i < k
    · simp only [hk, decide_true, Bool.not_true, Bool.false_and, Bool.or_false]
      cases x.getLsbD (k + i) <;> cases y.getLsbD (k + i) <;> cases m.getLsbD i <;> rfl
    · have h := h (by omega)
      simp only [hk, decide_false, Bool.not_false, Bool.true_and]
      cases hmi : m.getLsbD i with
      | true => rw [h hmi]; cases x.getLsbD (k + i) <;> cases y.getLsbD (k + i) <;> cases x.getLsbD (i - k) <;> cases y.getLsbD (i - k) <;> rfl
      | false => cases x.getLsbD (k + i) <;> cases y.getLsbD (k + i) <;> cases x.getLsbD (i - k) <;> cases y.getLsbD (i - k) <;> cases m.getLsbD (i - k) <;> rfl
theorem Lin.rot {n : Nat} (k : Nat) (hn : n = k + k) : Lin fun x : BitVec n => (x >>> k) ||| (x <<< k) := by
  refine ⟨fun x y => ?_, fun x y => ?_, by simp⟩ <;>
  · apply BitVec.eq_of_getLsbD_eq
    intro i hi
    simp only [BitVec.getLsbD_or, BitVec.getLsbD_and, BitVec.getLsbD_ushiftRight, BitVec.getLsbD_shiftLeft, hi, decide_true, Bool.true_and]
    by_cases hk : i < k
    · simp only [hk, decide_true, Bool.not_true, Bool.false_and, Bool.or_false]
    · have hx : ∀ z : BitVec n, z.getLsbD (k + i) = false := fun z => BitVec.getLsbD_of_ge z _ (by omega)
      simp only [hk, decide_false, Bool.not_false, Bool.true_and, hx, Bool.false_or, Bool.and_false, Bool.or_false]

def rev16 (x : BitVec 16) : BitVec 16 := (x >>> 8) ||| (x <<< 8)
def rev32 (x : BitVec 32) : BitVec 32 := ((((x >>> 8) &&& BitVec.ofInt 32 16711935) ||| ((x &&& BitVec.ofInt 32 16711935) <<< 8)) >>> 16) ||| ((((x >>> 8) &&& BitVec.ofInt 32 16711935) ||| ((x &&& BitVec.ofInt 32 16711935) <<< 8)) <<< 16)
def m3 : BitVec 64 := BitVec.ofInt 64 71777214294589695
def m4 : BitVec 64 := BitVec.ofInt 64 281470681808895
def st8 (x : BitVec 64) : BitVec 64 := ((x >>> 8) &&& m3) ||| ((x &&& m3) <<< 8)
def st16 (x : BitVec 64) : BitVec 64 := ((x >>> 16) &&& m4) ||| ((x &&& m4) <<< 16)
def rev64 (x : BitVec 64) : BitVec 64 := (st16 (st8 x) >>> 32) ||| (st16 (st8 x) <<< 32)
theorem rev16_lin : Lin rev16 := Lin.rot 8 rfl
theorem rev32_lin : Lin rev32 := Lin.comp (g := fun x : BitVec 32 => (x >>> 16) ||| (x <<< 16)) (Lin.rot 16 rfl) (Lin.sw 8 (BitVec.ofInt 32 16711935) (by decide +kernel))
theorem rev64_lin : Lin rev64 := Lin.comp (g := fun x : BitVec 64 => (x >>> 32) ||| (x <<< 32)) (Lin.rot 32 rfl) (Lin.comp (Lin.sw 16 m4 (by decide +kernel)) (Lin.sw 8 m3 (by decide +kernel)))

def turnOk (to : Int) : Bool := decide (to = 16) || (decide (to = 32) || decide (to = 64))
def turnV (to : Int) (x : BitVec 64) : BitVec 64 := bif decide (to = 16) then (rev16 (x.setWidth 16)).setWidth 64 else bif decide (to = 32) then (rev32 (x.setWidth 32)).setWidth 64 else bif decide (to = 64) then rev64 x else BitVec.ofInt 64 0
def swapV (to : Int) (big : Bool) (x : BitVec 64) : BitVec 64 := bif !turnOk to || big then turnV to x else turnV to (turnV to x)
def turnedV (to : Int) (big turn : Bool) (x : BitVec 64) : BitVec 64 := bif turn then turnV to x else swapV to big x
theorem turnV_lin {to : Int} (h : turnOk to = true) : Lin (turnV to) := by
  unfold turnOk at h
  simp only [Bool.or_eq_true, decide_eq_true_eq] at h
  rcases h with rfl | rfl | rfl
  · exact (Lin.width 16 64).comp (rev16_lin.comp (Lin.width 64 16))
  · exact (Lin.width 32 64).comp (rev32_lin.comp (Lin.width 64 32))
  · exact rev64_lin
theorem turnedV_lin {to : Int} {big turn : Bool} (h : turnOk to = true) : Lin (turnedV to big turn) := by
  have e : turnedV to big turn = bif turn then turnV to else bif big then turnV to else fun x => turnV to (turnV to x) := by
    funext x
    unfold turnedV swapV
    rw [h]
    cases turn <;> cases big <;> rfl
  rw [e]
  have hl := turnV_lin h
  cases turn
  · cases big
    · exact hl.comp hl
    · exact hl
  · exact hl
theorem turnV_small {to : Int} (h : turnOk to = true) (ht : to < 64) (x : BitVec 64) : (turnV to x).toNat < 2 ^ to.toNat := by
  unfold turnOk at h
  simp only [Bool.or_eq_true, decide_eq_true_eq] at h
  rcases h with rfl | rfl | rfl
  · have := (rev16 (x.setWidth 16)).isLt
    show ((rev16 (x.setWidth 16)).setWidth 64).toNat < _
    rw [BitVec.toNat_setWidth]
    exact Nat.lt_of_le_of_lt (Nat.mod_le _ _) this
  · have := (rev32 (x.setWidth 32)).isLt
    show ((rev32 (x.setWidth 32)).setWidth 64).toNat < _
    rw [BitVec.toNat_setWidth]
    exact Nat.lt_of_le_of_lt (Nat.mod_le _ _) this
  · omega
theorem turnedV_small {to : Int} {big turn : Bool} (h : turnOk to = true) (ht : to < 64) (x : BitVec 64) : (turnedV to big turn x).toNat < 2 ^ to.toNat := by
  unfold turnedV swapV
  cases turn
  · cases hb : (!turnOk to || big)
    · exact turnV_small h ht _
    · exact turnV_small h ht _
  · exact turnV_small h ht _

def turnT (f : BitVec 64 → BitVec 64) (t : Tn) : Tn := ⟨f t.v, f t.m⟩
theorem turnT_ok {f : BitVec 64 → BitVec 64} (hf : Lin f) {t : Tn} (h : ok t = true) : ok (turnT f t) = true := by
  unfold ok at h ⊢
  have h0 : t.v &&& t.m = zW := by simpa using h
  have : (turnT f t).v &&& (turnT f t).m = zW := by
    show f t.v &&& f t.m = zW
    rw [← hf.and, h0]; exact hf.zero
  rw [this]; rfl
theorem turnT_mem {f : BitVec 64 → BitVec 64} (hf : Lin f) {t : Tn} (h : ok t = true) {x : BitVec 64} (hx : Mem t x) : Mem (turnT f t) (f x) := by
  have h1 := (Tn.has_iff h).2 hx
  unfold Tn.has at h1
  rw [h] at h1
  have h1 : (x &&& ~~~t.m) = t.v := by simpa using h1
  have hxx : x = t.v ||| (x &&& t.m) := by
    rw [← h1]
    apply BitVec.eq_of_getLsbD_eq
    intro i hi
    simp only [BitVec.getLsbD_or, BitVec.getLsbD_and, BitVec.getLsbD_not, hi, decide_true, Bool.true_and]
    cases x.getLsbD i <;> cases t.m.getLsbD i <;> rfl
  have hok := turnT_ok hf h
  have hfx : f x = f t.v ||| (f x &&& f t.m) := by
    have := congrArg f hxx
    rw [hf.or, hf.and] at this
    exact this
  intro i hi hm
  have := congrArg (fun z => bt z i) hfx
  change bt (f t.m) i = false at hm
  show bt (f x) i = bt (f t.v) i
  unfold bt at *
  simp only [BitVec.getLsbD_or, BitVec.getLsbD_and] at this
  rw [hm] at this
  simpa using this
noncomputable def sswap (to : Int) (big turn : Bool) (a : Sc) : Sc := bif !turnOk to then all else synced (base (turnT (turnedV to big turn) (right a).t))
theorem most_small {t s : Tn} (hs : ok s = true) (ht : ok t = true) (h : Tn.inn s t = true) {k : Nat} (h1 : t.v.toNat < 2 ^ k) (h2 : t.m.toNat < 2 ^ k) : (most s).toNat < 2 ^ k := by
  have hb : ∀ {z : BitVec 64} {i : Nat}, z.toNat < 2 ^ k → k ≤ i → z.getLsbD i = false := fun {z i} hz hi => by
    rw [BitVec.getLsbD, Nat.testBit_lt_two_pow (Nat.lt_of_lt_of_le hz (Nat.pow_le_pow_right (by decide) hi))]
  have hin := (inn_iff hs ht).1 h
  by_cases hk : 64 ≤ k
  · exact Nat.lt_of_lt_of_le (most s).isLt (Nat.pow_le_pow_right (by decide) hk)
  · refine Nat.lt_pow_two_of_testBit _ fun i hi => ?_
    by_cases hi6 : i < 64
    · have h3 := hb h2 hi
      have h4 := hb h1 hi
      have h5 := hin i hi6
      unfold bt at h5
      obtain ⟨q1, q2⟩ := h5 h3
      rw [h4] at q2
      show (most s).getLsbD i = false
      unfold most
      rw [right_ok hs]
      simp only [BitVec.getLsbD_or]
      rw [q1, q2]; rfl
    · exact BitVec.getLsbD_of_ge _ _ (by omega)
theorem sswap_all {to : Int} {big turn : Bool} {a : Sc} {x : BitVec 64} (ga : Good a) (hx : Has a x) (h : turnOk to = true) :
    Good (sswap to big turn a) ∧ Has (sswap to big turn a) (turnedV to big turn x) ∧ (to < 64 → (sswap to big turn a).U.toNat < 2 ^ to.toNat) := by
  have hf := turnedV_lin (big := big) (turn := turn) h
  have hr : right a = a := right_of ga.st
  have hok := turnT_ok hf hx.ok
  have hm := turnT_mem hf hx.ok hx.t
  have hb := base_hr hok hm
  obtain ⟨t, h1, h2, h3, h4, h5⟩ := synced_has hb.rg hb.has
  have e : sswap to big turn a = t := by
    unfold sswap
    rw [h, hr]
    exact h2
  rw [e]
  refine ⟨h3, h4, fun hto => ?_⟩
  have hms := most_small h3.ok hok h5.t (k := to.toNat) (turnedV_small h hto _) (turnedV_small h hto _)
  have hbits := congrArg Sc.U h3.st.bits
  unfold byBits at hbits
  change minU t.U (most t.t) = t.U at hbits
  have := congrArg BitVec.toNat hbits
  rw [minU_nat] at this
  omega
end Go.Sc
