/-
  A symbolic machine for one call, with rows of any length: forms of states, and what a state of a form holds.
-/
import Derived.Test.YtoljppjibhnndaaSzAA
namespace Go.Sz
open Go Go.RowKit Go.Sy
set_option linter.unusedVariables false
set_option linter.unusedSimpArgs false
set_option linter.constructorNameAsVariable false

inductive ShC where
  | w (k : IntKind)
  | i (k : IntKind)
  | b
  | s
  | d (ts : Tys)
  | q (ts : Tys)
  | v
  | nilP
  | nilS
  | p (j off : Nat)
  | h (j : Nat)
  | hs (j sz : Nat)
  | clo (f : FuncId) (caps : List (Nat × Nat))

@[reducible] def ShC.den : ShC → Type
  | .w k => BitVec k.bits
  | .i _ => Int
  | .b => Bool
  | .s => ByteArray
  | .d ts => List ts.den
  | .q ts => ts.den
  | .v => Value
  | .hs _ _ => Nat × Nat × Option Nat
  | _ => Unit

def capP : List (Nat × Nat) → List Cap
  | [] => []
  | (j, o) :: l => .p j o :: capP l

def ShC.enc : (s : ShC) → s.den → Cell
  | .w k, x => .w k x
  | .i k, x => .v (.int k x)
  | .b, x => .v (.bool x)
  | .s, x => .v (.string x)
  | .d ts, x => .d ts x
  | .q ts, x => .q ts x
  | .v, x => .v x
  | .nilP, _ => .v (.pointer none)
  | .nilS, _ => .v (.slice none 0 0)
  | .p j o, _ => .p j o
  | .h j, _ => .h j
  | .hs j sz, x => .hs j sz x.1 x.2.1 x.2.2
  | .clo f c, _ => .clo f (capP c)

def eqCaps : List (Nat × Nat) → List Cap → Bool
  | [], [] => true
  | (j, o) :: l, .p j' o' :: l' => Nat.beq j j' && (Nat.beq o o' && eqCaps l l')
  | _, _ => false

theorem eqCaps_eq : ∀ {l : List (Nat × Nat)} {l' : List Cap}, eqCaps l l' = true → l' = capP l
  | [], [], _ => rfl
  | (j, o) :: l, .p j' o' :: l', h => by
    simp only [eqCaps, Bool.and_eq_true] at h
    rw [capP, ← Nat.eq_of_beq_eq_true h.1, ← Nat.eq_of_beq_eq_true h.2.1, eqCaps_eq h.2.2]
  | [], _ :: _, h => by simp [eqCaps] at h
  | (_, _) :: _, [], h => by simp [eqCaps] at h
  | (_, _) :: _, .v _ :: _, h => by simp [eqCaps] at h
  | (_, _) :: _, .w _ _ :: _, h => by simp [eqCaps] at h
  | (_, _) :: _, .h _ :: _, h => by simp [eqCaps] at h
  | (_, _) :: _, .d _ _ :: _, h => by simp [eqCaps] at h
  | (_, _) :: _, .q _ _ :: _, h => by simp [eqCaps] at h

def ShC.dec : (s : ShC) → Cell → Option s.den
  | .w k, .w k' x => if h : k' = k then some (castW h x) else none
  | .i k, .v (.int k' x) => if k' = k then some x else none
  | .b, .v (.bool x) => some x
  | .s, .v (.string x) => some x
  | .d ts, .d ts' l => toL ts l
  | .q ts, .q ts' x => toD ts x
  | .v, .v x => some x
  | .nilP, .v (.pointer none) => some ()
  | .nilS, .v (.slice none 0 0) => some ()
  | .p j o, .p j' o' => bif Nat.beq j' j && Nat.beq o' o then some () else none
  | .h j, .h j' => bif Nat.beq j' j then some () else none
  | .hs j sz, .hs j' sz' lo len mx => bif Nat.beq j' j && Nat.beq sz' sz then some (lo, len, mx) else none
  | .clo f c, .clo f' c' => bif Nat.beq f' f && eqCaps c c' then some () else none
  | _, _ => none

theorem toL_eq {ts ts' : Tys} {l : List ts.den} {l' : List ts'.den} (h : toL ts' l = some l') : Cell.d ts l = .d ts' l' := by
  unfold toL at h
  split at h
  · rename_i e
    have := Tys.eqb_eq e
    subst this
    injection h with h; subst h; rfl
  · cases h
theorem toD_eq {ts ts' : Tys} {x : ts.den} {x' : ts'.den} (h : toD ts' x = some x') : Cell.q ts x = .q ts' x' := by
  unfold toD at h
  split at h
  · rename_i e
    have := Tys.eqb_eq e
    subst this
    injection h with h; subst h; rfl
  · cases h
theorem toL_row {ts ts' : Tys} {l : List ts.den} {l' : List ts'.den} (h : toL ts' l = some l') : Ob.row ts l = .row ts' l' := by
  unfold toL at h
  split at h
  · rename_i e
    have := Tys.eqb_eq e
    subst this
    injection h with h; subst h; rfl
  · cases h

theorem bif_some {α : Type} {b : Bool} {x : α} {o : Option α} {y : α} (h : (bif b then some x else none) = some y) : b = true ∧ x = y := by
  cases b with
  | false => cases h
  | true => injection h with h; exact ⟨rfl, h⟩

theorem ShC.dec_eq {s : ShC} {c : Cell} {x : s.den} (h : s.dec c = some x) : c = s.enc x := by
  unfold ShC.dec at h
  split at h
  · split at h
    · rename_i e; subst e; injection h with h; subst h; rfl
    · cases h
  · split at h
    · rename_i e; subst e; injection h with h; subst h; rfl
    · cases h
  · injection h with h; subst h; rfl
  · injection h with h; subst h; rfl
  · exact toL_eq h
  · exact toD_eq h
  · injection h with h; subst h; rfl
  · rfl
  · rfl
  · rename_i j o j' o'
    cases hb : (Nat.beq j' j && Nat.beq o' o) with
    | false => rw [hb] at h; cases h
    | true =>
      simp only [Bool.and_eq_true] at hb
      rw [Nat.eq_of_beq_eq_true hb.1, Nat.eq_of_beq_eq_true hb.2]; rfl
  · rename_i j j'
    cases hb : Nat.beq j' j with
    | false => rw [hb] at h; cases h
    | true => rw [Nat.eq_of_beq_eq_true hb]; rfl
  · rename_i j sz j' sz' lo len mx
    cases hb : (Nat.beq j' j && Nat.beq sz' sz) with
    | false => rw [hb] at h; cases h
    | true =>
      rw [hb] at h
      simp only [Bool.and_eq_true] at hb
      injection h with h; subst h
      rw [Nat.eq_of_beq_eq_true hb.1, Nat.eq_of_beq_eq_true hb.2]; rfl
  · rename_i f c f' c'
    cases hb : (Nat.beq f' f && eqCaps c c') with
    | false => rw [hb] at h; cases h
    | true =>
      simp only [Bool.and_eq_true] at hb
      rw [show f' = f from Nat.eq_of_beq_eq_true hb.1, eqCaps_eq hb.2]; rfl
  · cases h

/-! ### Lists of cells, values, objects -/
@[reducible] def denCs : List ShC → Type
  | [] => Unit
  | s :: l => s.den × denCs l
def encCs : (l : List ShC) → denCs l → List Cell
  | [], _ => []
  | s :: l, x => s.enc x.1 :: encCs l x.2
def decCs : (l : List ShC) → List Cell → Option (denCs l)
  | [], [] => some ()
  | s :: l, c :: cs => match s.dec c, decCs l cs with
    | some x, some y => some (x, y)
    | _, _ => none
  | _, _ => none
theorem decCs_eq : ∀ {l : List ShC} {cs : List Cell} {x : denCs l}, decCs l cs = some x → cs = encCs l x
  | [], [], _, _ => rfl
  | s :: l, c :: cs, x, h => by
    simp only [decCs] at h
    split at h
    · rename_i a b ha hb
      injection h with h; subst h
      rw [encCs, ← ShC.dec_eq ha, ← decCs_eq hb]
    · cases h
  | [], _ :: _, _, h => by cases h
  | _ :: _, [], _, h => by cases h

inductive ShP where
  | one (s : ShC)
  | many (l : List ShC)
@[reducible] def ShP.den : ShP → Type
  | .one s => s.den
  | .many l => denCs l
def ShP.enc : (s : ShP) → s.den → Part
  | .one s, x => .one (s.enc x)
  | .many l, x => .many (encCs l x)
def ShP.dec : (s : ShP) → Part → Option s.den
  | .one s, .one c => s.dec c
  | .many l, .many cs => decCs l cs
  | _, _ => none
theorem ShP.dec_eq {s : ShP} {c : Part} {x : s.den} (h : s.dec c = some x) : c = s.enc x := by
  cases s <;> cases c <;> simp only [ShP.dec] at h
  · rw [ShC.dec_eq h]; rfl
  · cases h
  · cases h
  · rw [decCs_eq h]; rfl

@[reducible] def denPs : List ShP → Type
  | [] => Unit
  | s :: l => s.den × denPs l
def encPs : (l : List ShP) → denPs l → List Part
  | [], _ => []
  | s :: l, x => s.enc x.1 :: encPs l x.2
def decPs : (l : List ShP) → List Part → Option (denPs l)
  | [], [] => some ()
  | s :: l, c :: cs => match s.dec c, decPs l cs with
    | some x, some y => some (x, y)
    | _, _ => none
  | _, _ => none
theorem decPs_eq : ∀ {l : List ShP} {cs : List Part} {x : denPs l}, decPs l cs = some x → cs = encPs l x
  | [], [], _, _ => rfl
  | s :: l, c :: cs, x, h => by
    simp only [decPs] at h
    split at h
    · rename_i a b ha hb
      injection h with h; subst h
      rw [encPs, ← ShP.dec_eq ha, ← decPs_eq hb]
    · cases h
  | [], _ :: _, _, h => by cases h
  | _ :: _, [], _, h => by cases h

inductive ShA where
  | p (s : ShP)
  | t (l : List ShP)
@[reducible] def ShA.den : ShA → Type
  | .p s => s.den
  | .t l => denPs l
def ShA.enc : (s : ShA) → s.den → AV
  | .p s, x => .p (s.enc x)
  | .t l, x => .t (encPs l x)
def ShA.dec : (s : ShA) → AV → Option s.den
  | .p s, .p c => s.dec c
  | .t l, .t cs => decPs l cs
  | _, _ => none
theorem ShA.dec_eq {s : ShA} {c : AV} {x : s.den} (h : s.dec c = some x) : c = s.enc x := by
  cases s <;> cases c <;> simp only [ShA.dec] at h
  · rw [ShP.dec_eq h]; rfl
  · cases h
  · cases h
  · rw [decPs_eq h]; rfl
@[reducible] def ShA.c (s : ShC) : ShA := .p (.one s)

def Vt.eqb : Vt → Vt → Bool
  | .one t, .one t' => t.eqb t'
  | .many ts, .many ts' => ts.eqb ts'
  | _, _ => false
theorem Vt.eqb_eq {a b : Vt} (h : a.eqb b = true) : a = b := by
  cases a <;> cases b <;> simp only [Vt.eqb] at h
  · rw [Ty.eqb_eq h]
  · cases h
  · cases h
  · rw [Tys.eqb_eq h]
theorem mp_eq {kt kt' : Ty} {vt vt' : Vt} (h : (kt'.eqb kt && vt'.eqb vt) = true) : kt' = kt ∧ vt' = vt := by
  simp only [Bool.and_eq_true] at h
  exact ⟨Ty.eqb_eq h.1, Vt.eqb_eq h.2⟩
def castM {kt kt' : Ty} {vt vt' : Vt} (h : (kt'.eqb kt && vt'.eqb vt) = true) (l : List (kt'.den × vt'.den)) : List (kt.den × vt.den) := (mp_eq h).1 ▸ (mp_eq h).2 ▸ l
theorem castM_eq {kt kt' : Ty} {vt vt' : Vt} (h : (kt'.eqb kt && vt'.eqb vt) = true) (l : List (kt'.den × vt'.den)) : Ob.mp kt' vt' l = .mp kt vt (castM h l) := by
  obtain ⟨rfl, rfl⟩ := mp_eq h
  rfl

inductive ShO where
  | lit (l : List ShC)
  | row (ts : Tys)
  | mp (kt : Ty) (vt : Vt)
  | dead
@[reducible] def ShO.den : ShO → Type
  | .lit l => denCs l
  | .row ts => List ts.den
  | .mp kt vt => List (kt.den × vt.den)
  | .dead => Unit
def ShO.enc : (s : ShO) → s.den → Ob
  | .lit l, x => .lit (encCs l x)
  | .row ts, x => .row ts x
  | .mp kt vt, x => .mp kt vt x
  | .dead, _ => .dead
def ShO.dec : (s : ShO) → Ob → Option s.den
  | .lit l, .lit cs => decCs l cs
  | .row ts, .row _ l => toL ts l
  | .mp kt vt, .mp kt' vt' l => if h : (kt'.eqb kt && vt'.eqb vt) = true then some (castM h l) else none
  | .dead, .dead => some ()
  | _, _ => none
theorem ShO.dec_eq {s : ShO} {c : Ob} {x : s.den} (h : s.dec c = some x) : c = s.enc x := by
  cases s <;> cases c <;> simp only [ShO.dec] at h <;> try (cases h; done)
  · rw [decCs_eq h]; rfl
  · exact toL_row h
  · split at h
    · injection h with h; subst h; exact castM_eq _ _
    · cases h
  · rfl

@[reducible] def denEnv : List (Nat × ShA) → Type
  | [] => Unit
  | s :: l => s.2.den × denEnv l
def encEnv : (l : List (Nat × ShA)) → denEnv l → Env
  | [], _ => []
  | s :: l, x => (s.1, s.2.enc x.1) :: encEnv l x.2
def decEnv : (l : List (Nat × ShA)) → Env → Option (denEnv l)
  | [], [] => some ()
  | s :: l, c :: cs => bif Nat.beq c.1 s.1 then match s.2.dec c.2, decEnv l cs with
    | some x, some y => some (x, y)
    | _, _ => none
    else none
  | _, _ => none
theorem decEnv_eq : ∀ {l : List (Nat × ShA)} {cs : Env} {x : denEnv l}, decEnv l cs = some x → cs = encEnv l x
  | [], [], _, _ => rfl
  | s :: l, (k, c) :: cs, x, h => by
    simp only [decEnv] at h
    cases hb : Nat.beq k s.1 with
    | false => rw [hb] at h; cases h
    | true =>
      rw [hb] at h
      simp only [cond_true] at h
      split at h
      · rename_i a b ha hb'
        injection h with h; subst h
        rw [encEnv, ← ShA.dec_eq ha, ← decEnv_eq hb', Nat.eq_of_beq_eq_true hb]
      · cases h
  | [], _ :: _, _, h => by cases h
  | _ :: _, [], _, h => by cases h

@[reducible] def denObs : List ShO → Type
  | [] => Unit
  | s :: l => s.den × denObs l
def encObs : (l : List ShO) → denObs l → Nat → Hp
  | [], _, _ => []
  | s :: l, x, k => (k, s.enc x.1) :: encObs l x.2 (k + 1)
def decObs : (l : List ShO) → Hp → Nat → Option (denObs l)
  | [], [], _ => some ()
  | s :: l, c :: cs, k => bif Nat.beq c.1 k then match s.dec c.2, decObs l cs (k + 1) with
    | some x, some y => some (x, y)
    | _, _ => none
    else none
  | _, _, _ => none
theorem decObs_eq : ∀ {l : List ShO} {cs : Hp} {k : Nat} {x : denObs l}, decObs l cs k = some x → cs = encObs l x k
  | [], [], _, _, _ => rfl
  | s :: l, (k, c) :: cs, k', x, h => by
    simp only [decObs] at h
    cases hb : Nat.beq k k' with
    | false => rw [hb] at h; cases h
    | true =>
      rw [hb] at h
      simp only [cond_true] at h
      split at h
      · rename_i a b ha hb'
        injection h with h; subst h
        rw [encObs, ← ShO.dec_eq ha, ← decObs_eq hb', Nat.eq_of_beq_eq_true hb]
      · cases h
  | [], _ :: _, _, _, h => by cases h
  | _ :: _, [], _, _, h => by cases h

/-- The form of a state. -/
structure Shape where
  env : List (Nat × ShA)
  hp : List ShO
@[reducible] def Shape.den (s : Shape) : Type := denEnv s.env × denObs s.hp
def Shape.enc (s : Shape) (x : s.den) : St := ⟨encEnv s.env x.1, encObs s.hp x.2 0, s.hp.length⟩
def Shape.dec (s : Shape) (st : St) : Option s.den := bif Nat.beq st.nx s.hp.length then match decEnv s.env st.env, decObs s.hp st.hp 0 with
    | some x, some y => some (x, y)
    | _, _ => none
  else none
theorem Shape.dec_eq {s : Shape} {st : St} {x : s.den} (h : s.dec st = some x) : st = s.enc x := by
  unfold Shape.dec at h
  cases hb : Nat.beq st.nx s.hp.length with
  | false => rw [hb] at h; cases h
  | true =>
    rw [hb] at h
    simp only [cond_true] at h
    split at h
    · rename_i a b ha hb'
      injection h with h; subst h
      obtain ⟨e, hp, n⟩ := st
      simp only at ha hb' hb
      rw [Shape.enc, ← decEnv_eq ha, ← decObs_eq hb', Nat.eq_of_beq_eq_true hb]
    · cases h
end Go.Sz
