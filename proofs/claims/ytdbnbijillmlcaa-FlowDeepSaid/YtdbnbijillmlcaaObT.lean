/-
  Objects of rings and of plain programs.
-/
import Derived.Test.YtdbnbijillmlcaaObS
namespace Go.Sz
open Go Go.Sy
set_option linter.unusedVariables false
set_option linter.unusedSimpArgs false
/-- A contract that tells less. -/
theorem weakS {K : Know} {P : Program} {f : FuncId} {s s' : Summ} (h : SummOk K P f s) (hg : ∀ args H r, (s'.g args H).run = some r → (s.g args H).run = some r) (hck : ∀ args H, s.ck args H = true) : SummOk K P f s' := by
  rcases h with h | ⟨h1, h2⟩
  · exact .inl fun args H H' v e _ => h args H H' v (hg _ _ _ e) (hck _ _)
  · exact .inr ⟨h1, fun args H H' v e _ => h2 args H H' v (hg _ _ _ e) (hck _ _)⟩
theorem weakT {K : Know} {P : Program} {f : FuncId} {modes modes' : List Mode} {esc esc' : Bool} {sa : List ShA} {so : List ShO} {F F' : denAs sa → denObs so → Tree (AV × List Ob)} (h : SummOk K P f (sumT modes esc sa so F))
    (hg : ∀ x y r, (F' x y).run = some r → (F x y).run = some r) : SummOk K P f (sumT modes' esc' sa so F') :=
  weakS h (by
    intro args H r e
    simp only [sumT] at e ⊢
    split at e
    · exact hg _ _ _ e
    · cases e) fun _ _ => rfl
end Go.Sz
namespace Go.Ob
open Go Go.Sy Go.Sz Go.In
def ringM : MapD := (4, 0, 0, 8, false, 0, ())
def rings (k : Nat) : Maps := List.replicate k ringM
def plainI : Slots := [(183#8, 0#8, 0#8, 0, 0, ()), (149#8, 0#8, 0#8, 0, 0, ())]
def isP : Slots → Bool
  | [(a, b, c, d, e, _), (a', b', c', d', e', _)] => a == 183#8 && b == 0#8 && c == 0#8 && d == 0 && e == 0 && a' == 149#8 && b' == 0#8 && c' == 0#8 && d' == 0 && e' == 0
  | _ => false
theorem isP_eq {l : Slots} (h : isP l = true) : l = plainI := by
  unfold isP at h
  split at h
  · simp only [Bool.and_eq_true, beq_iff_eq] at h
    obtain ⟨⟨⟨⟨⟨⟨⟨⟨⟨rfl, rfl⟩, rfl⟩, rfl⟩, rfl⟩, rfl⟩, rfl⟩, rfl⟩, rfl⟩, rfl⟩ := h
    rfl
  · cases h
def alpha : ByteArray := ⟨#[97, 98, 99, 100, 101, 102, 103, 104, 105, 106, 107, 108, 109, 110, 111, 112, 113, 114, 115, 116, 117, 118, 119, 120, 121, 122]⟩
def nameN (i : Nat) : ByteArray := ⟨#[UInt8.ofNat (97 + i)]⟩
def nameK : ByteArray → Nat
  | ⟨⟨[c]⟩⟩ => c.toNat - 97
  | _ => 99
def isName (s : ByteArray) : Bool := Nat.blt (nameK s) 20 && decide (nameN (nameK s) = s)
theorem isName_ex {s : ByteArray} (h : isName s = true) : ∃ k, k < 20 ∧ s = nameN k := by
  unfold isName at h
  rw [Bool.and_eq_true] at h
  exact ⟨nameK s, Nat.le_of_ble_eq_true h.1, (of_decide_eq_true h.2).symm⟩
theorem cases20 {P : Nat → Prop} (h : ∀ k : Fin 20, P k.val) {k : Nat} (hk : k < 20) : P k := h ⟨k, hk⟩
def plains (n : Nat) : Progs := (List.range n).map fun i => (nameN i, plainI, ())
/-- n programs, of which the one at t has the first one's name -/
def progsL (n t : Nat) : Progs := bif Nat.blt 0 t && Nat.blt t n then (plains n).set t (⟨#[97]⟩, plainI, ()) else plains n
theorem progsL_ge {n t : Nat} (h : n ≤ t) : progsL n t = progsL n 0 := by
  unfold progsL
  rw [show Nat.blt t n = false from by cases hb : Nat.blt t n with | false => rfl | true => exact absurd (Nat.le_of_ble_eq_true hb) (by omega)]
  cases Nat.blt 0 t <;> rfl
def goodP (p : Progs) : Prop := ∃ n t, n ≤ 20 ∧ p = progsL n t
/-- the first program after the first with the first one's name -/
def twin : Nat → Progs → Nat
  | _, [] => 0
  | i, x :: l => bif x.1 == (⟨#[97]⟩ : ByteArray) then i else twin (i + 1) l
def progI (p : Progs) : Int := bif Nat.ble p.length 16 then (twin 1 (p.drop 1) : Int) else 0
def progB (p : Progs) : Bool := Nat.blt 0 p.length && Nat.ble p.length 16 && Nat.beq (twin 1 (p.drop 1)) 0
def prgR (a : Maps) (p : Progs) : AV × List Ob := (.t [.one (.v (.int .i64 (progI p))), .one (.v (.bool (progB p)))], [.row mapT a, .row progT p])
def goodM (a : Maps) : Prop := ∃ k, k ≤ 20 ∧ a = rings k
end Go.Ob
