/-
  A symbolic machine for one call: code, and a call's contract out of its code.
-/
import Derived.Test.YtlaaljiffcablaaGreatDoorSyI
namespace Go.Sy
open Go Go.RowKit

inductive Ex where
  | normal
  | exit (id : Nat)
  | ret

def Ex.exit' : Ex → Exit
  | .normal => .normal
  | .exit id => .exit id
  | .ret => .ret

/-! ### What is kept at a loop's head -/
def memN (k : Nat) : List Nat → Bool
  | [] => false
  | x :: l => bif Nat.beq x k then true else memN k l

def restrictE (env : Env) : List Nat → Env
  | [] => []
  | k :: ks => match look env k with
    | some av => (k, av) :: restrictE env ks
    | none => restrictE env ks

theorem restrictE_look {env : Env} : ∀ {ks : List Nat} {k : Nat} {av : AV}, look (restrictE env ks) k = some av → look env k = some av
  | [], _, _, h => by cases h
  | x :: ks, k, av, h => by
    simp only [restrictE] at h
    split at h
    · rename_i v hv
      rw [look_cons] at h
      split at h
      · rename_i e; subst e; rw [hv, h]
      · exact restrictE_look h
    · exact restrictE_look h

def keysE : Env → List Nat → List Nat
  | [], acc => acc.reverse
  | (k, _) :: r, acc => bif memN k acc then keysE r acc else keysE r (k :: acc)

def tempsOps : List Oper → List Nat
  | [] => []
  | o :: l => match o.op, o.dst with
    | .assign _, _ => tempsOps l
    | _, some d => d :: tempsOps l
    | _, none => tempsOps l

def tempsOf : Code → List Nat
  | .region _ ops _ => tempsOps ops.toList
  | .seq a b => tempsOf a ++ tempsOf b
  | .cond _ a b => tempsOf a ++ tempsOf b
  | .block _ a => tempsOf a
  | .loop a => tempsOf a
  | .scope a => tempsOf a
  | _ => []

def minusN (l : List Nat) : List Nat → List Nat
  | [] => []
  | k :: ks => bif memN k l then minusN l ks else k :: minusN l ks

def capLtB (n : Nat) : Option (Nat × Nat) × Value → Bool
  | (some (j, _), _) => Nat.blt j n
  | _ => true
def Cell.ltB (n : Nat) : Cell → Bool
  | .v _ => true
  | .p j _ => Nat.blt j n
  | .clo _ caps => caps.all (capLtB n)
  | .w _ _ => true
  | .s j _ _ _ _ => Nat.blt j n
def cellsLtB (n : Nat) : List Cell → Bool
  | [] => true
  | c :: l => c.ltB n && cellsLtB n l
def Part.ltB (n : Nat) : Part → Bool
  | .one c => c.ltB n
  | .many l => cellsLtB n l
def partsLtB (n : Nat) : List Part → Bool
  | [] => true
  | c :: l => c.ltB n && partsLtB n l
def AV.ltB (n : Nat) : AV → Bool
  | .p x => x.ltB n
  | .t l => partsLtB n l
def envLtB (n : Nat) : Env → Bool
  | [] => true
  | (_, av) :: r => av.ltB n && envLtB n r
def hpLtB (n : Nat) : Hp → Bool
  | [] => true
  | l :: r => cellsLtB n l && hpLtB n r

theorem Cell.ltB_lt {n : Nat} {c : Cell} (h : c.ltB n = true) : c.lt n := by
  cases c with
  | v x => trivial
  | p j o => exact Nat.le_of_ble_eq_true h
  | clo f caps =>
    intro x hx
    have := List.all_eq_true.1 h x hx
    obtain ⟨o, v⟩ := x
    cases o with
    | none => trivial
    | some jo => exact Nat.le_of_ble_eq_true this
  | w k x => trivial
  | s j o sz len cap => exact Nat.le_of_ble_eq_true h
theorem cellsLtB_lt {n : Nat} : ∀ {l : List Cell}, cellsLtB n l = true → ∀ c ∈ l, c.lt n
  | [], _, c, hc => by cases hc
  | x :: l, h, c, hc => by
    simp only [cellsLtB, Bool.and_eq_true] at h
    rcases List.mem_cons.1 hc with rfl | hc
    · exact Cell.ltB_lt h.1
    · exact cellsLtB_lt h.2 c hc
theorem Part.ltB_lt {n : Nat} {c : Part} (h : c.ltB n = true) : c.lt n := by
  cases c with
  | one c => exact Cell.ltB_lt h
  | many l => exact cellsLtB_lt h
theorem partsLtB_lt {n : Nat} : ∀ {l : List Part}, partsLtB n l = true → ∀ c ∈ l, c.lt n
  | [], _, c, hc => by cases hc
  | x :: l, h, c, hc => by
    simp only [partsLtB, Bool.and_eq_true] at h
    rcases List.mem_cons.1 hc with rfl | hc
    · exact Part.ltB_lt h.1
    · exact partsLtB_lt h.2 c hc
theorem AV.ltB_lt {n : Nat} {c : AV} (h : c.ltB n = true) : c.lt n := by
  cases c with
  | p x => exact Part.ltB_lt h
  | t l => exact partsLtB_lt h
theorem envLtB_lt {n : Nat} : ∀ {env : Env}, envLtB n env = true → ∀ k av, look env k = some av → av.lt n
  | [], _, k, av, h => by cases h
  | (x, v) :: r, h, k, av, hk => by
    simp only [envLtB, Bool.and_eq_true] at h
    rw [look_cons] at hk
    split at hk
    · injection hk with hk; subst hk; exact AV.ltB_lt h.1
    · exact envLtB_lt h.2 k av hk
theorem hpLtB_lt {n : Nat} : ∀ {hp : Hp}, hpLtB n hp = true → ∀ l ∈ hp, ∀ c ∈ l, c.lt n
  | [], _, l, hl => by cases hl
  | x :: r, h, l, hl => by
    simp only [hpLtB, Bool.and_eq_true] at h
    rcases List.mem_cons.1 hl with rfl | hl
    · exact cellsLtB_lt h.1
    · exact hpLtB_lt h.2 l hl

def cleanS (ks : List Nat) (n0 : Nat) (st : St) : St :=
  bif Nat.ble n0 st.hp.length && (envLtB n0 (restrictE st.env ks) && hpLtB n0 (st.hp.take n0)) then ⟨restrictE st.env ks, st.hp.take n0⟩ else ⟨restrictE st.env ks, st.hp⟩

theorem Mem.take {w0 : World} {S : Nat → Nat → Prop} {m : Nat} {r0 r : Loc} {hp : Hp} {w : World} (h : Mem w0 S m r0 r hp w) {n : Nat} (hn : n ≤ hp.length) (hm : m ≤ n)
    (hl : ∀ l ∈ hp.take n, ∀ c ∈ l, c.lt n) : Mem w0 S m r0 r (hp.take n) w := by
  have hget : ∀ (j : Nat) (l : List Cell), (hp.take n)[j]? = some l → hp[j]? = some l := fun j l hj => by
    rw [List.getElem?_take] at hj
    split at hj
    · exact hj
    · cases hj
  have hlen : (hp.take n).length = n := by simp; omega
  refine ⟨fun j l hj => h.heap j l (hget j l hj), fun j j' l l' i i' hj hj' => h.disj j j' l l' i i' (hget j l hj) (hget j' l' hj'), ?_, h.frame, ?_, h.par, by omega⟩
  · rw [hlen]; exact hl
  · rintro b o ⟨j, l, i, hj, hi, e1, e2⟩
    exact h.fresh b o ⟨j, l, i, hget j l hj, hi, e1, e2⟩

section
variable {P : Program} {T : FuncId → Option Summ} {N : Nat} {w0 : World} {S : Nat → Nat → Prop} {m : Nat} {r0 : Loc}

theorem Conc.clean {r : Loc} {st : St} {a : Act} {w : World} (h : Conc N w0 S m r0 r st a w) (ks : List Nat) {n0 : Nat} (hm : m ≤ n0) : Conc N w0 S m r0 r (cleanS ks n0 st) a w := by
  have he : EnvOk r (restrictE st.env ks) a := fun k av hk => h.env k av (restrictE_look hk)
  unfold cleanS
  cases hb : (Nat.ble n0 st.hp.length && (envLtB n0 (restrictE st.env ks) && hpLtB n0 (st.hp.take n0))) with
  | false => exact ⟨h.defers, h.size, he, fun k av hk => h.elt k av (restrictE_look hk), h.mem⟩
  | true =>
    simp only [Bool.and_eq_true] at hb
    have hle : n0 ≤ st.hp.length := Nat.le_of_ble_eq_true hb.1
    have hlen : (st.hp.take n0).length = n0 := by simp; omega
    exact ⟨h.defers, h.size, he, by simp only [cond_true]; rw [hlen]; exact envLtB_lt hb.2.1, h.mem.take hle hm (hpLtB_lt hb.2.2)⟩

/-! ### Code -/
def loopN (f : St → Tree (Ex × St)) (ks : List Nat) (n0 : Nat) : Nat → St → Tree (Ex × St)
  | 0, _ => .fail
  | n + 1, st => (f st).bind fun x => match x.1 with
    | .normal => loopN f ks n0 n (cleanS ks n0 x.2)
    | .exit id => .ret (.exit id, x.2)
    | .ret => .ret (.ret, x.2)

/-- The same, but that what is kept behind the loop is told too. -/
def loopC (f : St → Tree (Ex × St)) (ks k2 : List Nat) (n0 : Nat) : Nat → St → Tree (Ex × St)
  | 0, _ => .fail
  | n + 1, st => (f st).bind fun x => match x.1 with
    | .normal => loopC f ks k2 n0 n (cleanS ks n0 x.2)
    | .exit id => .ret (.exit id, cleanS k2 n0 x.2)
    | .ret => .ret (.ret, cleanS k2 n0 x.2)

def keysOf : Env → List Nat
  | [] => []
  | (k, _) :: l => k :: keysOf l

/-- What is known of loops, by their places in the code: from the state at the head to the state behind. -/
abbrev LT := List Nat → Option (List Nat × List Nat × (St → Option (Ex × St)))

def headOf (ks : List Nat) (st : St) : St := ⟨restrictE st.env ks, st.hp⟩

def evalCode (P : Program) (T : FuncId → Option Summ) (N fuel : Nat) (L : LT) : Code → List Nat → St → Tree (Ex × St)
  | .skip, _ => fun st => .ret (.normal, st)
  | .label _, _ => fun st => .ret (.normal, st)
  | .region _ ops draw, p => fun st => match L p with
    | some (ks, _, o) => match o (headOf ks st) with
      | some y => .ret y
      | none => .fail
    | none => (bif draw then (bif Region.noSelect ops then drawOps P T N ops ops.size (Array.replicate ops.size false) [] st else .fail)
      else seqL P T N ops ops.toList st).bind fun st' => .ret (.normal, st')
  | .seq x y, p => fun st => (evalCode P T N fuel L x (0 :: p) st).bind fun r => match r.1 with
    | .normal => evalCode P T N fuel L y (1 :: p) r.2
    | .exit id => .ret (.exit id, r.2)
    | .ret => .ret (.ret, r.2)
  | .cond c x y, p => fun st => match evalO st.env c with
    | some (.p (.one (.v (.bool b)))) => .ite b (evalCode P T N fuel L x (0 :: p) st) (evalCode P T N fuel L y (1 :: p) st)
    | _ => .fail
  | .block id x, p => fun st => (evalCode P T N fuel L x (0 :: p) st).bind fun r => match r.1 with
    | .normal => .ret (.normal, r.2)
    | .exit id' => bif Nat.beq id' id then .ret (.normal, r.2) else .ret (.exit id', r.2)
    | .ret => .ret (.ret, r.2)
  | .loop x, p => fun st => match L p with
    | none => loopN (evalCode P T N fuel L x (0 :: p)) (keysOf (headOf (keysE st.env []) st).env) st.hp.length fuel (headOf (keysE st.env []) st)
    | some (ks, _, o) => match o (headOf ks st) with
      | some y => .ret y
      | none => .fail
  | .exit id, _ => fun st => .ret (.exit id, st)
  | .ret, _ => fun st => .ret (.ret, st)
  | .scope x, p => fun st => evalCode P T N fuel L x (0 :: p) st
  | .rangeFunc .., _ => fun _ => .fail
  | .goto _, _ => fun _ => .fail
  | .refuse _, _ => fun _ => .fail

def subAt (c : Code) : List Nat → Option Code
  | [] => some c
  | i :: p => match subAt c p with
    | some (.seq x y) => bif Nat.beq i 0 then some x else some y
    | some (.cond _ x y) => bif Nat.beq i 0 then some x else some y
    | some (.block _ x) => some x
    | some (.loop x) => some x
    | some (.scope x) => some x
    | _ => none

def restS (k2 : List Nat) (st : St) : St := ⟨restrictE st.env k2, st.hp⟩
/-! ### Another order of the objects -/
def idxN (j : Nat) : List Nat → Nat → Option Nat
  | [], _ => none
  | x :: l, k => bif Nat.beq x j then some k else idxN j l (k + 1)
def renCap (σ : List Nat) : Option (Nat × Nat) × Value → Option (Option (Nat × Nat) × Value)
  | (some (j, o), v) => match idxN j σ 0 with
    | some k => some (some (k, o), v)
    | none => none
  | (none, v) => some (none, v)
def renCaps (σ : List Nat) : List (Option (Nat × Nat) × Value) → Option (List (Option (Nat × Nat) × Value))
  | [] => some []
  | c :: l => match renCap σ c, renCaps σ l with
    | some x, some y => some (x :: y)
    | _, _ => none
def renC (σ : List Nat) : Cell → Option Cell
  | .v x => some (.v x)
  | .w k x => some (.w k x)
  | .p j o => match idxN j σ 0 with
    | some k => some (.p k o)
    | none => none
  | .s j o sz len cap => match idxN j σ 0 with
    | some k => some (.s k o sz len cap)
    | none => none
  | .clo f caps => match renCaps σ caps with
    | some c => some (.clo f c)
    | none => none
def renL (σ : List Nat) : List Cell → Option (List Cell)
  | [] => some []
  | c :: l => match renC σ c, renL σ l with
    | some x, some y => some (x :: y)
    | _, _ => none
def renP (σ : List Nat) : Part → Option Part
  | .one c => match renC σ c with
    | some x => some (.one x)
    | none => none
  | .many l => match renL σ l with
    | some x => some (.many x)
    | none => none
def renPs (σ : List Nat) : List Part → Option (List Part)
  | [] => some []
  | c :: l => match renP σ c, renPs σ l with
    | some x, some y => some (x :: y)
    | _, _ => none
def renA (σ : List Nat) : AV → Option AV
  | .p x => match renP σ x with
    | some y => some (.p y)
    | none => none
  | .t l => match renPs σ l with
    | some y => some (.t y)
    | none => none
def renE (σ : List Nat) : Env → Option Env
  | [] => some []
  | (k, av) :: l => match renA σ av, renE σ l with
    | some x, some y => some ((k, x) :: y)
    | _, _ => none
/-- the objects σ of a heap, in that order -/
def renH (σ : List Nat) (hp : Hp) : List Nat → Option Hp
  | [] => some []
  | j :: l => match nth hp j with
    | none => none
    | some cs => match renL σ cs, renH σ hp l with
      | some x, some y => some (x :: y)
      | _, _ => none
def fixN : Nat → Nat → List Nat → Bool
  | 0, _, _ => true
  | n + 1, k, x :: l => Nat.beq x k && fixN n (k + 1) l
  | _ + 1, _, [] => false
def nodupN : List Nat → Bool
  | [] => true
  | x :: l => !memN x l && nodupN l
def permS (n : Nat) (σ : List Nat) (st : St) : Option St := match σ with
  | [] => some st
  | _ :: _ => bif fixN n 0 σ && nodupN σ then match renE σ st.env, renH σ st.hp σ with
    | some e, some h => some ⟨e, h⟩
    | _, _ => none
  else none

theorem idxN_spec {j : Nat} : ∀ {σ : List Nat} {k0 k : Nat}, idxN j σ k0 = some k → k0 ≤ k ∧ σ[k - k0]? = some j
  | [], _, _, h => by cases h
  | x :: l, k0, k, h => by
    simp only [idxN] at h
    cases hb : Nat.beq x j with
    | true =>
      rw [hb] at h
      simp only [cond_true, Option.some.injEq] at h; subst h
      rw [Nat.eq_of_beq_eq_true hb]; simp
    | false =>
      rw [hb] at h
      simp only [cond_false] at h
      obtain ⟨h1, h2⟩ := idxN_spec h
      refine ⟨by omega, ?_⟩
      rw [show k - k0 = (k - (k0 + 1)) + 1 by omega, List.getElem?_cons_succ]; exact h2
theorem idxN_get {j k : Nat} {σ : List Nat} (h : idxN j σ 0 = some k) : σ[k]? = some j := by have := (idxN_spec h).2; simpa using this
theorem memN_spec {x : Nat} : ∀ {l : List Nat}, memN x l = false → x ∉ l
  | [], _, h => by cases h
  | y :: l, hm, h => by
    simp only [memN] at hm
    cases hb : Nat.beq y x with
    | true => rw [hb] at hm; cases hm
    | false =>
      rw [hb] at hm
      rcases List.mem_cons.1 h with rfl | h
      · simp at hb
      · exact memN_spec hm h
theorem nodupN_spec : ∀ {l : List Nat}, nodupN l = true → ∀ (i j : Nat) (x : Nat), l[i]? = some x → l[j]? = some x → i = j
  | [], _, i, j, x, h, _ => by simp at h
  | y :: l, hn, i, j, x, hi, hj => by
    simp only [nodupN, Bool.and_eq_true, Bool.not_eq_true'] at hn
    have hy := memN_spec hn.1
    cases i with
    | zero =>
      cases j with
      | zero => rfl
      | succ j => simp at hi hj; subst hi; exact absurd (List.mem_of_getElem? hj) hy
    | succ i =>
      cases j with
      | zero => simp at hi hj; subst hj; exact absurd (List.mem_of_getElem? hi) hy
      | succ j => simp at hi hj; rw [nodupN_spec hn.2 i j x hi hj]
theorem fixN_spec : ∀ {n k : Nat} {l : List Nat}, fixN n k l = true → ∀ i, i < n → l[i]? = some (k + i)
  | 0, _, _, _, i, h => by omega
  | n + 1, k, x :: l, h, i, hi => by
    simp only [fixN, Bool.and_eq_true] at h
    cases i with
    | zero => rw [← Nat.eq_of_beq_eq_true h.1]; simp
    | succ i =>
      have := fixN_spec h.2 i (by omega)
      rw [List.getElem?_cons_succ, this, show k + 1 + i = k + (i + 1) by omega]
  | _ + 1, _, [], h, _, _ => by cases h

def permR (σ : List Nat) (r : Loc) : Loc := fun k => match σ[k]? with
  | some j => r j
  | none => (0, 0)
theorem permR_get {σ : List Nat} {r : Loc} {k j : Nat} (h : σ[k]? = some j) : permR σ r k = r j := by unfold permR; rw [h]

theorem renCap_den {σ : List Nat} {r : Loc} {c c' : Option (Nat × Nat) × Value} (h : renCap σ c = some c') : denCap (permR σ r) c' = denCap r c ∧ capLt σ.length c' := by
  obtain ⟨o, v⟩ := c
  cases o with
  | none => simp [renCap] at h; subst h; exact ⟨rfl, trivial⟩
  | some jo =>
    obtain ⟨j, o⟩ := jo
    simp only [renCap] at h
    split at h
    · rename_i k hk
      injection h with h; subst h
      have := idxN_get hk
      exact ⟨by simp [denCap, permR_get this], (List.getElem?_eq_some_iff.1 this).1⟩
    · cases h
theorem renCaps_den {σ : List Nat} {r : Loc} : ∀ {l l' : List (Option (Nat × Nat) × Value)}, renCaps σ l = some l' → l'.map (denCap (permR σ r)) = l.map (denCap r) ∧ ∀ c ∈ l', capLt σ.length c
  | [], l', h => by simp [renCaps] at h; subst h; exact ⟨rfl, fun c hc => by cases hc⟩
  | c :: l, l', h => by
    simp only [renCaps] at h
    split at h
    · rename_i x y hx hy
      injection h with h; subst h
      obtain ⟨h1, h2⟩ := renCap_den (r := r) hx
      obtain ⟨h3, h4⟩ := renCaps_den (r := r) hy
      refine ⟨by simp only [List.map_cons, h1, h3], fun z hz => ?_⟩
      rcases List.mem_cons.1 hz with rfl | hz
      · exact h2
      · exact h4 z hz
    · cases h
theorem renC_den {σ : List Nat} {r : Loc} {c c' : Cell} (h : renC σ c = some c') : c'.den (permR σ r) = c.den r ∧ c'.lt σ.length := by
  cases c with
  | v x => simp [renC] at h; subst h; exact ⟨rfl, trivial⟩
  | w k x => simp [renC] at h; subst h; exact ⟨rfl, trivial⟩
  | p j o =>
    simp only [renC] at h
    split at h
    · rename_i k hk
      injection h with h; subst h
      have := idxN_get hk
      exact ⟨by simp [Cell.den, permR_get this], (List.getElem?_eq_some_iff.1 this).1⟩
    · cases h
  | s j o sz len cap =>
    simp only [renC] at h
    split at h
    · rename_i k hk
      injection h with h; subst h
      have := idxN_get hk
      exact ⟨by simp [Cell.den, permR_get this], (List.getElem?_eq_some_iff.1 this).1⟩
    · cases h
  | clo f caps =>
    simp only [renC] at h
    split at h
    · rename_i x hx
      injection h with h; subst h
      obtain ⟨h1, h2⟩ := renCaps_den (r := r) hx
      exact ⟨by simp only [Cell.den, h1], h2⟩
    · cases h
theorem renL_den {σ : List Nat} {r : Loc} : ∀ {l l' : List Cell}, renL σ l = some l' → denCells (permR σ r) l' = denCells r l ∧ (∀ c ∈ l', c.lt σ.length) ∧ l'.length = l.length
  | [], l', h => by simp [renL] at h; subst h; exact ⟨rfl, fun c hc => (by cases hc), rfl⟩
  | c :: l, l', h => by
    simp only [renL] at h
    split at h
    · rename_i x y hx hy
      injection h with h; subst h
      obtain ⟨h1, h2⟩ := renC_den (r := r) hx
      obtain ⟨h3, h4, h5⟩ := renL_den (r := r) hy
      refine ⟨by simp only [denCells, h1, h3], fun z hz => ?_, by simp [h5]⟩
      rcases List.mem_cons.1 hz with rfl | hz
      · exact h2
      · exact h4 z hz
    · cases h
theorem renP_den {σ : List Nat} {r : Loc} {c c' : Part} (h : renP σ c = some c') : c'.den (permR σ r) = c.den r ∧ c'.lt σ.length := by
  cases c with
  | one c =>
    simp only [renP] at h
    split at h
    · rename_i x hx
      injection h with h; subst h
      exact renC_den hx
    · cases h
  | many l =>
    simp only [renP] at h
    split at h
    · rename_i x hx
      injection h with h; subst h
      obtain ⟨h1, h2, _⟩ := renL_den (r := r) hx
      exact ⟨by simp only [Part.den, h1], h2⟩
    · cases h
theorem renPs_den {σ : List Nat} {r : Loc} : ∀ {l l' : List Part}, renPs σ l = some l' → l'.map (Part.den (permR σ r)) = l.map (Part.den r) ∧ ∀ c ∈ l', c.lt σ.length
  | [], l', h => by simp [renPs] at h; subst h; exact ⟨rfl, fun c hc => by cases hc⟩
  | c :: l, l', h => by
    simp only [renPs] at h
    split at h
    · rename_i x y hx hy
      injection h with h; subst h
      obtain ⟨h1, h2⟩ := renP_den (r := r) hx
      obtain ⟨h3, h4⟩ := renPs_den (r := r) hy
      refine ⟨by simp only [List.map_cons, h1, h3], fun z hz => ?_⟩
      rcases List.mem_cons.1 hz with rfl | hz
      · exact h2
      · exact h4 z hz
    · cases h
theorem renA_den {σ : List Nat} {r : Loc} {c c' : AV} (h : renA σ c = some c') : c'.den (permR σ r) = c.den r ∧ c'.lt σ.length := by
  cases c with
  | p x =>
    simp only [renA] at h
    split at h
    · rename_i y hy
      injection h with h; subst h
      exact renP_den hy
    · cases h
  | t l =>
    simp only [renA] at h
    split at h
    · rename_i y hy
      injection h with h; subst h
      obtain ⟨h1, h2⟩ := renPs_den (r := r) hy
      exact ⟨by simp only [AV.den, h1], h2⟩
    · cases h
theorem renE_look {σ : List Nat} : ∀ {e e' : Env}, renE σ e = some e' → ∀ k av', look e' k = some av' → ∃ av, look e k = some av ∧ renA σ av = some av'
  | [], e', h, k, av', hk => by simp [renE] at h; subst h; cases hk
  | (x, av) :: l, e', h, k, av', hk => by
    simp only [renE] at h
    split at h
    · rename_i y z hy hz
      injection h with h; subst h
      rw [look_cons] at hk
      rw [look_cons]
      split at hk
      · rename_i e; subst e
        injection hk with hk; subst hk
        exact ⟨av, by rw [if_pos rfl], hy⟩
      · rename_i e
        obtain ⟨u, h1, h2⟩ := renE_look hz k av' hk
        exact ⟨u, by rw [if_neg e]; exact h1, h2⟩
    · cases h
theorem renH_get {σ : List Nat} {hp : Hp} : ∀ {l : List Nat} {hp' : Hp}, renH σ hp l = some hp' → hp'.length = l.length ∧ ∀ (k : Nat) (cs' : List Cell), hp'[k]? = some cs' → ∃ j cs, l[k]? = some j ∧ hp[j]? = some cs ∧ renL σ cs = some cs'
  | [], hp', h => by simp [renH] at h; subst h; exact ⟨rfl, fun k cs' hk => by simp at hk⟩
  | j :: l, hp', h => by
    simp only [renH] at h
    split at h
    · cases h
    rename_i cs hcs
    rw [nth_eq] at hcs
    split at h
    · rename_i x y hx hy
      injection h with h; subst h
      obtain ⟨h1, h2⟩ := renH_get hy
      refine ⟨by simp [h1], fun k cs' hk => ?_⟩
      cases k with
      | zero => simp at hk; subst hk; exact ⟨j, cs, rfl, hcs, hx⟩
      | succ k => simp at hk; simpa using h2 k cs' hk
    · cases h

theorem Mem.perm {w0 : World} {S : Nat → Nat → Prop} {m : Nat} {r0 r : Loc} {hp hp' : Hp} {w : World} (h : Mem w0 S m r0 r hp w) {σ : List Nat} {n : Nat} (hn : m ≤ n) (hf : fixN n 0 σ = true) (hd : nodupN σ = true)
    (hh : renH σ hp σ = some hp') : Mem w0 S m r0 (permR σ r) hp' w := by
  obtain ⟨hlen, hget⟩ := renH_get hh
  refine ⟨?_, ?_, ?_, h.frame, ?_, ?_, ?_⟩
  · intro k cs' hk
    obtain ⟨j, cs, h1, h2, h3⟩ := hget k cs' hk
    obtain ⟨e1, _, e3⟩ := renL_den (r := r) h3
    rw [permR_get h1, e1, e3]
    exact h.heap j cs h2
  · intro k k' cs cs' i i' hk hk' hne hi hi'
    obtain ⟨j, l, h1, h2, h3⟩ := hget k cs hk
    obtain ⟨j', l', h1', h2', h3'⟩ := hget k' cs' hk'
    have e3 := (renL_den (r := r) h3).2.2
    have e3' := (renL_den (r := r) h3').2.2
    rw [permR_get h1, permR_get h1']
    refine h.disj j j' l l' i i' h2 h2' (fun e => hne ?_) (by omega) (by omega)
    subst e
    exact nodupN_spec hd k k' j h1 h1'
  · intro l hl c hc
    obtain ⟨k, hk⟩ := List.mem_iff_getElem?.1 hl
    obtain ⟨j, cs, h1, h2, h3⟩ := hget k l hk
    rw [hlen]
    exact (renL_den (r := r) h3).2.1 c hc
  · rintro b o ⟨k, cs', i, hk, hi, rfl, rfl⟩
    obtain ⟨j, cs, h1, h2, h3⟩ := hget k cs' hk
    have e3 := (renL_den (r := r) h3).2.2
    rw [permR_get h1]
    exact h.fresh _ _ ⟨j, cs, i, h2, by omega, rfl, rfl⟩
  · intro j hj
    have := fixN_spec hf j (by omega)
    rw [permR_get this, Nat.zero_add]
    exact h.par j hj
  · rw [hlen]
    rcases Nat.eq_zero_or_pos m with h0 | h0
    · omega
    · have := (List.getElem?_eq_some_iff.1 (fixN_spec hf (m - 1) (by omega))).1
      omega

theorem Conc.perm {N : Nat} {w0 : World} {S : Nat → Nat → Prop} {m : Nat} {r0 : Loc} {r : Loc} {st st' : St} {a : Act} {w : World} (h : Conc N w0 S m r0 r st a w) {σ : List Nat} {n : Nat} (hn : m ≤ n) (hs : permS n σ st = some st') :
    ∃ r', Conc N w0 S m r0 r' st' a w := by
  unfold permS at hs
  split at hs
  · injection hs with hs; subst hs; exact ⟨r, h⟩
  · rename_i x l
    cases hb : (fixN n 0 (x :: l) && nodupN (x :: l)) with
    | false => rw [hb] at hs; cases hs
    | true =>
      rw [hb] at hs
      simp only [Bool.and_eq_true] at hb
      simp only [cond_true] at hs
      split at hs
      · rename_i e hp' he hh
        injection hs with hs; subst hs
        refine ⟨permR (x :: l) r, h.defers, h.size, fun k av' hk => ?_, fun k av' hk => ?_, h.mem.perm hn hb.1 hb.2 hh⟩
        · obtain ⟨av, h1, h2⟩ := renE_look he k av' hk
          rw [(renA_den (r := r) h2).1]
          exact h.env k av h1
        · obtain ⟨av, h1, h2⟩ := renE_look he k av' hk
          show av'.lt hp'.length
          rw [(renH_get hh).1]
          exact (renA_den (r := r) h2).2
      · cases hs

def permAll (n : Nat) (K2 : List Nat) : List (List Nat) → List St → Option (List St)
  | [], [] => some []
  | σ :: l, x :: z => match permS n σ (restS K2 x), permAll n K2 l z with
    | some y, some ys => some (y :: ys)
    | _, _ => none
  | _, _ => none
theorem permAll_spec {n : Nat} {K2 : List Nat} {st' : St} : ∀ {ps : List (List Nat)} {z : List St} {k : Nat}, permAll n K2 ps z = some (List.replicate k st') → ∀ x ∈ z, ∃ σ, permS n σ (restS K2 x) = some st'
  | [], [], _, _, x, hx => by cases hx
  | [], _ :: _, _, h, _, _ => by cases h
  | _ :: _, [], _, _, x, hx => by cases hx
  | σ :: l, y :: z, k, h, x, hx => by
    simp only [permAll] at h
    split at h
    · rename_i u us hu hus
      cases k with
      | zero => cases h
      | succ k =>
        simp only [List.replicate_succ, Option.some.injEq, List.cons.injEq] at h
        obtain ⟨rfl, rfl⟩ := h
        rcases List.mem_cons.1 hx with rfl | hx
        · exact ⟨σ, hu⟩
        · exact permAll_spec hus x hx
    · cases h

def LOk2 (P : Program) (T : FuncId → Option Summ) (N fuel : Nat) (L L' : LT) (c0 : Code) : Prop := ∀ p K K2 o, L' p = some (K, K2, o) →
  (∀ x, subAt c0 p = some (.loop x) → ∀ st ex st', o st = some (ex, st') → ∃ n, (loopC (evalCode P T N fuel L x (0 :: p)) K K2 st.hp.length n st).run = some (ex, st')) ∧
  (∀ id ops draw, subAt c0 p = some (.region id ops draw) → ∀ st ex st', o st = some (ex, st') → ex = .normal ∧ draw = true ∧ Region.noSelect ops = true ∧
    ∃ z, (drawL P T N ops ops.size (Array.replicate ops.size false) [] st).run = some z ∧ ∀ x ∈ z, ∃ σ, permS st.hp.length σ (restS K2 x) = some st')
def LOk (P : Program) (T : FuncId → Option Summ) (N fuel : Nat) (L : LT) (c0 : Code) : Prop := LOk2 P T N fuel L L c0

def eqP : List Nat → List Nat → Bool
  | [], [] => true
  | a :: x, b :: y => Nat.beq a b && eqP x y
  | _, _ => false
theorem eqP_spec : ∀ {x y : List Nat}, eqP x y = true → x = y
  | [], [], _ => rfl
  | a :: x, b :: y, h => by
    simp only [eqP, Bool.and_eq_true] at h
    rw [Nat.eq_of_beq_eq_true h.1, eqP_spec h.2]
  | [], _ :: _, h => by cases h
  | _ :: _, [], h => by cases h
def oneL (p K K2 : List Nat) (o : St → Option (Ex × St)) (L : LT) : LT := fun q => bif eqP q p then some (K, K2, o) else L q
def codeOf (fn : Func) : Code := fn.body.getD .skip
def bodyAt (c : Code) (p : List Nat) : Code := match subAt c p with
  | some (.loop x) => x
  | _ => .skip

def isLoop : Option Code → Bool
  | some (.loop _) => true
  | _ => false
def opsAt (c : Code) (p : List Nat) : Array Oper := match subAt c p with
  | some (.region _ ops _) => ops
  | _ => #[]
def isDraw : Option Code → Bool
  | some (.region _ ops true) => Region.noSelect ops
  | _ => false

@[reducible] def loopR (P : Program) (T : FuncId → Option Summ) (N fuel : Nat) (L : LT) (c0 : Code) (p K K2 : List Nat) (n0 n : Nat) (st : St) : Option (Ex × St) := (loopC (evalCode P T N fuel L (bodyAt c0 p) (0 :: p)) K K2 n0 n st).run

theorem lok_oneL {P : Program} {T : FuncId → Option Summ} {N fuel : Nat} {L L' : LT} {c0 : Code} {p K K2 : List Nat} {o : St → Option (Ex × St)} (h' : LOk2 P T N fuel L L' c0) (hi : isLoop (subAt c0 p) = true)
    (h : ∀ st ex st', o st = some (ex, st') → ∃ n n0, n0 = st.hp.length ∧ (loopC (evalCode P T N fuel L (bodyAt c0 p) (0 :: p)) K K2 n0 n st).run = some (ex, st')) : LOk2 P T N fuel L (oneL p K K2 o L') c0 := by
  intro q K' K2' o' hq
  unfold oneL at hq
  cases hb : eqP q p with
  | false => rw [hb] at hq; exact h' q K' K2' o' hq
  | true =>
    rw [hb] at hq
    simp only [cond_true, Option.some.injEq, Prod.mk.injEq] at hq
    obtain ⟨rfl, rfl, rfl⟩ := hq
    obtain rfl := eqP_spec hb
    refine ⟨fun x hx => ?_, fun id ops draw hx => ?_⟩
    · have : bodyAt c0 q = x := by unfold bodyAt; rw [hx]
      rw [← this]
      intro st ex st' hst
      obtain ⟨n, n0, rfl, h2⟩ := h st ex st' hst
      exact ⟨n, h2⟩
    · rw [hx] at hi; cases hi

theorem lok_regL {P : Program} {T : FuncId → Option Summ} {N fuel : Nat} {L L' : LT} {c0 : Code} {p K K2 : List Nat} {o : St → Option (Ex × St)} (h' : LOk2 P T N fuel L L' c0) (hi : isDraw (subAt c0 p) = true)
    (h : ∀ st ex st', o st = some (ex, st') → ex = .normal ∧ ∃ z, (drawL P T N (opsAt c0 p) (opsAt c0 p).size (Array.replicate (opsAt c0 p).size false) [] st).run = some z ∧ ∀ x ∈ z, ∃ σ, permS st.hp.length σ (restS K2 x) = some st') : LOk2 P T N fuel L (oneL p K K2 o L') c0 := by
  intro q K' K2' o' hq
  unfold oneL at hq
  cases hb : eqP q p with
  | false => rw [hb] at hq; exact h' q K' K2' o' hq
  | true =>
    rw [hb] at hq
    simp only [cond_true, Option.some.injEq, Prod.mk.injEq] at hq
    obtain ⟨rfl, rfl, rfl⟩ := hq
    obtain rfl := eqP_spec hb
    refine ⟨fun x hx => ?_, fun id ops draw hx => ?_⟩
    · rw [hx] at hi; cases hi
    · have : opsAt c0 q = ops := by unfold opsAt; rw [hx]
      rw [hx] at hi
      rw [← this] at hi ⊢
      cases draw with
      | false => cases hi
      | true =>
        intro st ex st' hst
        obtain ⟨h1, h2⟩ := h st ex st' hst
        exact ⟨h1, rfl, hi, h2⟩

theorem lok_regN {P : Program} {T : FuncId → Option Summ} {N fuel : Nat} {L L' : LT} {c0 : Code} {p K K2 : List Nat} {o : St → Option (Ex × St)} (h' : LOk2 P T N fuel L L' c0) (hi : isDraw (subAt c0 p) = true) (n : Nat)
    (h : ∀ st ex st', o st = some (ex, st') → ex = .normal ∧ (drawL P T N (opsAt c0 p) (opsAt c0 p).size (Array.replicate (opsAt c0 p).size false) [] st).run.map (List.map (restS K2)) = some (List.replicate n st')) : LOk2 P T N fuel L (oneL p K K2 o L') c0 :=
  lok_regL h' hi fun st ex st' hst => by
    obtain ⟨h1, h2⟩ := h st ex st' hst
    refine ⟨h1, ?_⟩
    generalize (drawL P T N (opsAt c0 p) (opsAt c0 p).size (Array.replicate (opsAt c0 p).size false) [] st).run = z at h2
    cases z with
    | none => cases h2
    | some z =>
      simp only [Option.map_some, Option.some.injEq] at h2
      refine ⟨z, rfl, fun x hx => ?_⟩
      have : restS K2 x ∈ List.map (restS K2) z := List.mem_map_of_mem hx
      rw [h2] at this
      exact ⟨[], by rw [(List.mem_replicate.1 this).2]; rfl⟩

theorem lok_regP {P : Program} {T : FuncId → Option Summ} {N fuel : Nat} {L L' : LT} {c0 : Code} {p K K2 : List Nat} {o : St → Option (Ex × St)} (h' : LOk2 P T N fuel L L' c0) (hi : isDraw (subAt c0 p) = true) (n : Nat) (ps : List (List Nat))
    (h : ∀ st ex st', o st = some (ex, st') → ex = .normal ∧ ∃ n0, n0 = st.hp.length ∧ (drawL P T N (opsAt c0 p) (opsAt c0 p).size (Array.replicate (opsAt c0 p).size false) [] st).run.bind (permAll n0 K2 ps) = some (List.replicate n st')) : LOk2 P T N fuel L (oneL p K K2 o L') c0 :=
  lok_regL h' hi fun st ex st' hst => by
    obtain ⟨h1, n0, h0, h2⟩ := h st ex st' hst
    refine ⟨h1, ?_⟩
    generalize (drawL P T N (opsAt c0 p) (opsAt c0 p).size (Array.replicate (opsAt c0 p).size false) [] st).run = z at h2
    cases z with
    | none => cases h2
    | some z => exact ⟨z, rfl, by rw [← h0]; exact permAll_spec h2⟩

def noL : LT := fun _ => none
theorem noL_ok2 (P : Program) (T : FuncId → Option Summ) (N fuel : Nat) (L : LT) (c0 : Code) : LOk2 P T N fuel L noL c0 := fun _ _ _ _ h => by cases h
theorem noL_ok (P : Program) (T : FuncId → Option Summ) (N fuel : Nat) (c0 : Code) : LOk P T N fuel noL c0 := fun _ _ _ _ h => by cases h

/-- The post of code that the machine has gone through. -/
def PostC (N : Nat) (w0 : World) (S : Nat → Nat → Prop) (m : Nat) (r0 : Loc) (ex : Ex) (st : St) (e : Exit) (a : Act) (w : World) : Prop := e = ex.exit' ∧ ∃ r, Conc N w0 S m r0 r st a w

theorem PostC.panic {ex : Ex} {st : St} (c : List PanicEntry) (a : Act) (d : Option Tmp) (v : Value) (w : World) (h : PostC N w0 S m r0 ex st (.panic c) (a.put d v) w) : PostC N w0 S m r0 ex st (.panic c) a w := by
  have := h.1
  cases ex <;> cases this

theorem code_wp (hT : TOkAt P T w0 S) (hm : P.follows .mixedOrders = true) {fuel : Nat} {L : LT} {c0 : Code} (hL : LOk P T N fuel L c0) : ∀ (c : Code) (p : List Nat) (st st' : St) (ex : Ex) (r : Loc) (a : Act) (w : World), subAt c0 p = some c → (evalCode P T N fuel L c p st).run = some (ex, st') →
    Conc N w0 S m r0 r st a w → c.wp P (PostC N w0 S m r0 ex st') a w := by
  intro c
  induction c with
  | skip =>
    intro p st st' ex r a w hp h hc
    simp only [evalCode, Tree.run, Option.some.injEq, Prod.mk.injEq] at h
    obtain ⟨rfl, rfl⟩ := h
    exact wp_skip ⟨rfl, r, hc⟩
  | label l =>
    intro p st st' ex r a w hp h hc
    simp only [evalCode, Tree.run, Option.some.injEq, Prod.mk.injEq] at h
    obtain ⟨rfl, rfl⟩ := h
    exact wp_label ⟨rfl, r, hc⟩
  | region id ops draw =>
    intro p st st' ex r a w hp h hc
    simp only [evalCode] at h
    split at h
    · rename_i K K2 o ho
      split at h
      · rename_i y hy
        simp only [Tree.run, Option.some.injEq] at h
        subst h
        obtain ⟨rfl, rfl, hs, z, hz, hall⟩ := (hL p K K2 o ho).2 id ops draw hp _ _ _ hy
        have hc0 : Conc N w0 S m r0 r (headOf K st) a w := ⟨hc.defers, hc.size, fun k av hk => hc.env k av (restrictE_look hk), fun k av hk => hc.elt k av (restrictE_look hk), hc.mem⟩
        refine wp_region_D hm (drawL_wp hT hs (fun c a d v w h => PostC.panic c a d v w h) _ _ [] [] _ r a w.drew z hz (fun x hx r' a' w' h' => ?_) ⟨hc0.defers, hc0.size, hc0.env, hc0.elt, hc0.mem.drew⟩ trivial)
        obtain ⟨σ, hσ⟩ := hall x hx
        have h1 : Conc N w0 S m r0 r' (restS K2 x) a' w' := ⟨h'.defers, h'.size, fun k av hk => h'.env k av (restrictE_look hk), fun k av hk => h'.elt k av (restrictE_look hk), h'.mem⟩
        obtain ⟨r2, h2⟩ := h1.perm hc.mem.mle hσ
        exact ⟨rfl, r2, h2⟩
      · cases h
    obtain ⟨st1, h1, h2⟩ := Tree.run_bind_some h
    simp only [Tree.run, Option.some.injEq, Prod.mk.injEq] at h2
    obtain ⟨rfl, rfl⟩ := h2
    have hQ : ∀ r' a' w', Conc N w0 S m r0 r' st1 a' w' → PostC N w0 S m r0 .normal st1 .normal a' w' := fun r' a' w' h => ⟨rfl, r', h⟩
    cases draw with
    | true =>
      simp only [cond_true] at h1
      cases hs : Region.noSelect ops with
      | false => rw [hs] at h1; cases h1
      | true =>
        rw [hs] at h1
        refine wp_region_D hm (draw_wp hT hs hQ (fun c a d v w h => PostC.panic c a d v w h) _ _ [] [] st r a w.drew h1 ⟨hc.defers, hc.size, hc.env, hc.elt, hc.mem.drew⟩ trivial)
    | false =>
      simp only [cond_false] at h1
      have := seqL_wp hT (ops := ops) hQ ops.toList [] st r a w rfl h1 hc
      refine wp_region ?_
      rw [List.range_eq_range']
      simpa using this
  | seq x y ihx ihy =>
    intro p st st' ex r a w hp h hc
    simp only [evalCode] at h
    obtain ⟨⟨ex1, st1⟩, h1, h2⟩ := Tree.run_bind_some h
    refine wp_seq (wp_mono (ihx (0 :: p) st st1 ex1 r a w (by simp [subAt, hp]) h1 hc) ?_)
    rintro e a1 w1 ⟨rfl, r1, hc1⟩
    cases ex1 with
    | normal => exact ihy (1 :: p) st1 st' ex r1 a1 w1 (by simp only [subAt, hp]; rfl) h2 hc1
    | exit id =>
      simp only [Tree.run, Option.some.injEq, Prod.mk.injEq] at h2
      obtain ⟨rfl, rfl⟩ := h2
      exact ⟨rfl, r1, hc1⟩
    | ret =>
      simp only [Tree.run, Option.some.injEq, Prod.mk.injEq] at h2
      obtain ⟨rfl, rfl⟩ := h2
      exact ⟨rfl, r1, hc1⟩
  | cond c x y ihx ihy =>
    intro p st st' ex r a w hp h hc
    simp only [evalCode] at h
    split at h
    · rename_i b hb
      have hv := evalO_den hc.env hb
      simp only [AV.den, Part.den, Cell.den] at hv
      simp only [Tree.run] at h
      cases b with
      | true => exact wp_cond_true hv (ihx (0 :: p) st st' ex r a w (by simp [subAt, hp]) h hc)
      | false => exact wp_cond_false hv (ihy (1 :: p) st st' ex r a w (by simp only [subAt, hp]; rfl) h hc)
    · cases h
  | block id x ih =>
    intro p st st' ex r a w hp h hc
    simp only [evalCode] at h
    obtain ⟨⟨ex1, st1⟩, h1, h2⟩ := Tree.run_bind_some h
    refine wp_block (wp_mono (ih (0 :: p) st st1 ex1 r a w (by simp [subAt, hp]) h1 hc) ?_)
    rintro e a1 w1 ⟨rfl, r1, hc1⟩
    cases ex1 with
    | normal =>
      simp only [Tree.run, Option.some.injEq, Prod.mk.injEq] at h2
      obtain ⟨rfl, rfl⟩ := h2
      exact ⟨rfl, r1, hc1⟩
    | ret =>
      simp only [Tree.run, Option.some.injEq, Prod.mk.injEq] at h2
      obtain ⟨rfl, rfl⟩ := h2
      exact ⟨rfl, r1, hc1⟩
    | exit id' =>
      simp only [Ex.exit', Exit.inBlock] at h2 ⊢
      by_cases hid : id' = id
      · subst hid
        simp only [Nat.beq_refl, cond_true, Tree.run, Option.some.injEq, Prod.mk.injEq] at h2
        obtain ⟨rfl, rfl⟩ := h2
        rw [if_pos rfl]
        exact ⟨rfl, r1, hc1⟩
      · have hb : Nat.beq id' id = false := by
          cases hb : Nat.beq id' id with
          | false => rfl
          | true => exact absurd (Nat.eq_of_beq_eq_true hb) hid
        simp only [hb, cond_false, Tree.run, Option.some.injEq, Prod.mk.injEq] at h2
        obtain ⟨rfl, rfl⟩ := h2
        rw [if_neg hid]
        exact ⟨rfl, r1, hc1⟩
  | loop x ih =>
    intro p st st' ex r a w hp h hc
    have hsub : subAt c0 (0 :: p) = some x := by simp [subAt, hp]
    have hc0 : ∀ ks, Conc N w0 S m r0 r (headOf ks st) a w := fun ks => ⟨hc.defers, hc.size, fun k av hk => hc.env k av (restrictE_look hk), fun k av hk => hc.elt k av (restrictE_look hk), hc.mem⟩
    have key : ∀ (ks : List Nat) (n0 : Nat), m ≤ n0 → ∀ (n : Nat) (st st' : St) (ex : Ex) (r : Loc) (a : Act) (w : World), (loopN (evalCode P T N fuel L x (0 :: p)) ks n0 n st).run = some (ex, st') → Conc N w0 S m r0 r st a w →
        Code.rounds P x (PostC N w0 S m r0 ex st') n a w := by
      intro ks n0 hmn n
      induction n with
      | zero => intro st st' ex r a w h _; cases h
      | succ n ihn =>
        intro st st' ex r a w h hc
        simp only [loopN] at h
        obtain ⟨⟨ex1, st1⟩, h1, h2⟩ := Tree.run_bind_some h
        rw [rounds_succ]
        refine wp_mono (ih (0 :: p) st st1 ex1 r a w hsub h1 hc) ?_
        rintro e a1 w1 ⟨rfl, r1, hc1⟩
        cases ex1 with
        | normal => exact ihn _ st' ex r1 a1 w1 h2 (hc1.clean ks hmn)
        | exit id =>
          simp only [Tree.run, Option.some.injEq, Prod.mk.injEq] at h2
          obtain ⟨rfl, rfl⟩ := h2
          exact ⟨rfl, r1, hc1⟩
        | ret =>
          simp only [Tree.run, Option.some.injEq, Prod.mk.injEq] at h2
          obtain ⟨rfl, rfl⟩ := h2
          exact ⟨rfl, r1, hc1⟩
    simp only [evalCode] at h
    split at h
    · exact wp_loop_rounds fuel (key _ _ hc.mem.mle fuel _ st' ex r a w h (hc0 _))
    · rename_i K K2 o ho
      split at h
      · rename_i y hy
        simp only [Tree.run, Option.some.injEq] at h
        subst h
        obtain ⟨n, h1⟩ := (hL p K K2 o ho).1 x hp _ _ _ hy
        have hmn : m ≤ (headOf K st).hp.length := hc.mem.mle
        generalize (headOf K st).hp.length = n0 at h1 hmn
        have keyC : ∀ (n : Nat) (st st' : St) (ex : Ex) (r : Loc) (a : Act) (w : World), (loopC (evalCode P T N fuel L x (0 :: p)) K K2 n0 n st).run = some (ex, st') → Conc N w0 S m r0 r st a w →
            Code.rounds P x (PostC N w0 S m r0 ex st') n a w := by
          intro n
          induction n with
          | zero => intro st st' ex r a w h _; cases h
          | succ n ihn =>
            intro st st' ex r a w h hc
            simp only [loopC] at h
            obtain ⟨⟨ex1, st1⟩, h1, h2⟩ := Tree.run_bind_some h
            rw [rounds_succ]
            refine wp_mono (ih (0 :: p) st st1 ex1 r a w hsub h1 hc) ?_
            rintro e a1 w1 ⟨rfl, r1, hc1⟩
            cases ex1 with
            | normal => exact ihn _ st' ex r1 a1 w1 h2 (hc1.clean K hmn)
            | exit id =>
              simp only [Tree.run, Option.some.injEq, Prod.mk.injEq] at h2
              obtain ⟨rfl, rfl⟩ := h2
              exact ⟨rfl, r1, hc1.clean K2 hmn⟩
            | ret =>
              simp only [Tree.run, Option.some.injEq, Prod.mk.injEq] at h2
              obtain ⟨rfl, rfl⟩ := h2
              exact ⟨rfl, r1, hc1.clean K2 hmn⟩
        exact wp_loop_rounds n (keyC n _ _ _ r a w h1 (hc0 K))
      · cases h
  | exit id =>
    intro p st st' ex r a w hp h hc
    simp only [evalCode, Tree.run, Option.some.injEq, Prod.mk.injEq] at h
    obtain ⟨rfl, rfl⟩ := h
    exact wp_exit ⟨rfl, r, hc⟩
  | ret =>
    intro p st st' ex r a w hp h hc
    simp only [evalCode, Tree.run, Option.some.injEq, Prod.mk.injEq] at h
    obtain ⟨rfl, rfl⟩ := h
    exact wp_ret ⟨rfl, r, hc⟩
  | scope x ih =>
    intro p st st' ex r a w hp h hc
    simp only [evalCode] at h
    refine wp_scope_straight (wp_mono (ih (0 :: p) st st' ex r a w (by simp [subAt, hp]) h hc) ?_)
    rintro e a1 w1 ⟨rfl, r1, hc1⟩
    cases ex <;> exact ⟨rfl, r1, hc1⟩
  | rangeFunc f ps x y _ _ => intro p st st' ex r a w hp h; cases h
  | goto l => intro p st st' ex r a w hp h; cases h
  | refuse s => intro p st st' ex r a w hp h; cases h

end

/-! ### Results -/
def resultsA (P : Program) (hp : Hp) (env : Env) : List ResultVar → Option (List Part)
  | [] => some []
  | .tmp t :: l => match look env t, resultsA P hp env l with
    | some (.p x), some r => some (x :: r)
    | _, _ => none
  | .cell a t :: l => match look env a with
    | some (.p (.one (.p j off))) => match loadA P hp t j off, resultsA P hp env l with
      | some x, some r => some (x :: r)
      | _, _ => none
    | _ => none

def mkRes : List Part → AV
  | [x] => .p x
  | l => .t l

theorem mapM_run {P : Program} {w : World} {α β : Type} (f : α → Sem β) : ∀ (l : List α) (vs : List β), (∀ (i : Nat) (a : α), l[i]? = some a → ∃ b, vs[i]? = some b ∧ (f a).run P w = .ok b w) → vs.length = l.length →
    (l.mapM f).run P w = .ok vs w
  | [], vs, _, hl => by
    have : vs = [] := List.length_eq_zero_iff.1 (by simpa using hl)
    subst this; rfl
  | a :: l, vs, h, hl => by
    cases vs with
    | nil => simp at hl
    | cons v vs =>
      obtain ⟨b, hb, hr⟩ := h 0 a rfl
      simp at hb; subst hb
      have ih := mapM_run f l vs (fun i a ha => h (i + 1) a (by simpa using ha)) (by simpa using hl)
      rw [List.mapM_cons, Sem.run_bind, hr]
      simp only [Result.andThen_ok, Sem.run_bind, ih, Sem.run_pure]

def resF (tmps : Array Value) : ResultVar → Sem Value
  | .tmp t => pure (tmps.getD t undef)
  | .cell p t => do loadVar t (← asAddr (tmps.getD p undef))

theorem results_eq (fn : Func) (tmps : Array Value) : results fn tmps = (fn.results.mapM (resF tmps) >>= fun vs => pure (if h : vs.size = 1 then vs[0] else .tuple vs)) := by
  unfold results
  congr 1

theorem resultsA_spec {P : Program} {r : Loc} {hp : Hp} {env : Env} {a : Act} {w : World} (he : EnvOk r env a) (hh : HeapIs r hp w) : ∀ (l : List ResultVar) (ps : List Part), resultsA P hp env l = some ps →
    (ps.map (Part.den r)).length = l.length ∧ ∀ (i : Nat) (x : ResultVar), l[i]? = some x → ∃ b, (ps.map (Part.den r))[i]? = some b ∧
      (resF a.tmps x).run P w = .ok b w
  | [], ps, h => by
    simp [resultsA] at h; subst h
    exact ⟨rfl, fun i x hx => by simp at hx⟩
  | .tmp t :: l, ps, h => by
    simp only [resultsA] at h
    split at h
    · rename_i x q hx hq
      injection h with h; subst h
      obtain ⟨h1, h2⟩ := resultsA_spec he hh l q hq
      refine ⟨by simpa using h1, fun i y hy => ?_⟩
      cases i with
      | zero =>
        simp at hy; subst hy
        refine ⟨_, rfl, ?_⟩
        have := he t _ hx
        simp [resF, this, AV.den]
      | succ i => simpa using h2 i y (by simpa using hy)
    · cases h
  | .cell p t :: l, ps, h => by
    simp only [resultsA] at h
    split at h
    · rename_i j off hp'
      split at h
      · rename_i x q hx hq
        injection h with h; subst h
        obtain ⟨h1, h2⟩ := resultsA_spec he hh l q hq
        refine ⟨by simpa using h1, fun i y hy => ?_⟩
        cases i with
        | zero =>
          simp at hy; subst hy
          refine ⟨_, rfl, ?_⟩
          have := he p _ hp'
          simp only [AV.den, Part.den, Cell.den] at this
          have h3 := loadA_run hh hx
          have h4 : a.tmps.getD p undef = .pointer (some ⟨(r j).1, (r j).2 + off, none⟩) := by simp [this]
          simp only [resF, h4]
          simpa [asAddr] using h3
        | succ i => simpa using h2 i y (by simpa using hy)
      · cases h
    · cases h

theorem results_run {P : Program} {fn : Func} {r : Loc} {hp : Hp} {env : Env} {a : Act} {w : World} (he : EnvOk r env a) (hh : HeapIs r hp w) {ps : List Part} (h : resultsA P hp env fn.results.toList = some ps) :
    (results fn a.tmps).run P w = .ok ((mkRes ps).den r) w := by
  obtain ⟨h1, h2⟩ := resultsA_spec he hh _ _ h
  have hm := mapM_run (P := P) (w := w) _ fn.results.toList (ps.map (Part.den r)) h2 h1
  rw [results_eq, Array.mapM_eq_mapM_toList, Sem.run_bind, Sem.run_map, hm]
  simp only [Result.andThen_ok, Sem.run_pure]
  congr 1
  match ps with
  | [] => rfl
  | [x] => rfl
  | x :: y :: l => simp [mkRes, AV.den]

/-! ### A call -/
def argEnv : List AV → Nat → Env
  | [], _ => []
  | a :: l, k => (k, a) :: argEnv l (k + 1)

theorem argEnv_look : ∀ (l : List AV) (k i : Nat) (av : AV), look (argEnv l k) i = some av → k ≤ i ∧ l[i - k]? = some av
  | [], _, _, _, h => by cases h
  | a :: l, k, i, av, h => by
    simp only [argEnv] at h
    rw [look_cons] at h
    split at h
    · rename_i e; subst e; exact ⟨Nat.le_refl _, by simpa using h⟩
    · obtain ⟨h1, h2⟩ := argEnv_look l (k + 1) i av h
      refine ⟨by omega, ?_⟩
      rw [show i - k = (i - (k + 1)) + 1 by omega]
      simpa using h2

def sameLens : Hp → Hp → Bool
  | [], [] => true
  | a :: x, b :: y => Nat.beq a.length b.length && sameLens x y
  | _, _ => false

theorem sameLens_spec : ∀ {x y : Hp}, sameLens x y = true → x.map List.length = y.map List.length
  | [], [], _ => rfl
  | a :: x, b :: y, h => by
    simp only [sameLens, Bool.and_eq_true] at h
    simp [Nat.eq_of_beq_eq_true h.1, sameLens_spec h.2]
  | [], _ :: _, h => by cases h
  | _ :: _, [], h => by cases h

def evalFnL (P : Program) (T : FuncId → Option Summ) (fuel : Nat) (L : LT) (fn : Func) (c : Code) (args : List AV) (H : Hp) : Tree (AV × Hp) :=
  bif Nat.ble args.length fn.ntmps then
    (evalCode P T fn.ntmps fuel L c [] ⟨argEnv args 0, H⟩).bind fun x => match x.1 with
      | .exit _ => .fail
      | _ => match resultsA P x.2.hp x.2.env fn.results.toList with
        | some ps => bif sameLens (x.2.hp.take H.length) H && ((mkRes ps).ltB H.length && hpLtB H.length (x.2.hp.take H.length)) then .ret (mkRes ps, x.2.hp.take H.length) else .fail
        | none => .fail
  else .fail

def evalFn (P : Program) (T : FuncId → Option Summ) (fuel : Nat) (fn : Func) (c : Code) (args : List AV) (H : Hp) : Tree (AV × Hp) := evalFnL P T fuel noL fn c args H

theorem evalFnL_calls {K : Know} {P : Program} {T : FuncId → Option Summ} (hT : TOk K P T) (hm : P.follows .mixedOrders = true) {f : FuncId} {fn : Func} {c : Code} (hf : P.funcs[f]? = some fn) (hb : fn.body = some c)
    {fuel : Nat} {L : LT} (hL : LOk P T fn.ntmps fuel L c) {r : Loc} {args : List AV} {H H' : Hp} {v : AV} {w : World} (h : (evalFnL P T fuel L fn c args H).run = some (v, H')) (ha : ∀ a ∈ args, a.lt H.length) (hl : ∀ l ∈ H, ∀ c ∈ l, c.lt H.length)
    (hh : HeapIs r H w) (hd : Disj r H) (hk : K.ok w) (hkd : ∀ b o, K.foot b o → ¬ Rng r H b o) :
    Calls P f (args.map (AV.den r)).toArray w fun e w' => e = .returned (v.den r) ∧ HeapIs r H' w' ∧ Fr (Rng r H) w w' ∧ H'.map List.length = H.map List.length ∧ v.lt H.length := by
  unfold evalFnL at h
  cases hble : Nat.ble args.length fn.ntmps with
  | false => rw [hble] at h; cases h
  | true =>
    rw [hble] at h
    simp only [cond_true] at h
    have hle : args.length ≤ fn.ntmps := Nat.le_of_ble_eq_true hble
    obtain ⟨⟨ex, st⟩, h1, h2⟩ := Tree.run_bind_some h
    refine calls_of_wp hf hb ?_
    let a0 : Act := { tmps := (args.map (AV.den r)).toArray ++ Array.replicate (fn.ntmps - (args.map (AV.den r)).toArray.size) undef, defers := [] }
    have hc : Conc fn.ntmps w (Rng r H) H.length r r ⟨argEnv args 0, H⟩ a0 w := by
      refine ⟨rfl, by simp [a0]; omega, fun k av hk => ?_, fun k av hk => ?_, ⟨hh, hd, hl, Fr.refl _ _, fun b o h => .inr h, fun _ _ => rfl, Nat.le_refl _⟩⟩
      · obtain ⟨_, h3⟩ := argEnv_look args 0 k av hk
        simp only [Nat.sub_zero] at h3
        have hk' : k < args.length := (List.getElem?_eq_some_iff.1 h3).1
        simp only [a0]
        rw [Array.getElem?_append_left (by simpa using hk')]
        simp [h3]
      · obtain ⟨_, h3⟩ := argEnv_look args 0 k av hk
        exact ha av (List.mem_of_getElem? h3)
    refine wp_mono (code_wp (hT.at hk hkd) hm hL c [] _ st ex r a0 w rfl h1 hc) ?_
    rintro e a1 w1 ⟨rfl, r1, hc1⟩
    have main : ∀ ps, resultsA P st.hp st.env fn.results.toList = some ps → (bif sameLens (st.hp.take H.length) H && ((mkRes ps).ltB H.length && hpLtB H.length (st.hp.take H.length)) then Tree.ret (mkRes ps, st.hp.take H.length) else .fail).run = some (v, H') →
        a1.defers = [] ∧ ∃ u, (results fn a1.tmps).run P w1 = .ok u w1 ∧ Ending.returned u = .returned (v.den r) ∧ HeapIs r H' w1 ∧ Fr (Rng r H) w w1 ∧ H'.map List.length = H.map List.length ∧ v.lt H.length := by
      intro ps hps hr
      cases hb2 : (sameLens (st.hp.take H.length) H && ((mkRes ps).ltB H.length && hpLtB H.length (st.hp.take H.length))) with
      | false => rw [hb2] at hr; cases hr
      | true =>
        rw [hb2] at hr
        simp only [cond_true, Tree.run, Option.some.injEq, Prod.mk.injEq] at hr
        obtain ⟨rfl, rfl⟩ := hr
        simp only [Bool.and_eq_true] at hb2
        have hlt := AV.ltB_lt hb2.2.1
        refine ⟨hc1.defers, _, results_run hc1.env hc1.mem.heap hps, by rw [AV.den_agree hc1.mem.par hlt], ?_, hc1.mem.frame, sameLens_spec hb2.1, hlt⟩
        intro j l hj
        have hj' : st.hp[j]? = some l ∧ j < H.length := by
          rw [List.getElem?_take] at hj
          split at hj
          · exact ⟨hj, by assumption⟩
          · cases hj
        have h3 := hc1.mem.heap j l hj'.1
        rw [hc1.mem.par j hj'.2, denCells_agree hc1.mem.par (hpLtB_lt hb2.2.2 l (List.mem_of_getElem? hj))] at h3
        exact h3
    cases ex with
    | exit id => cases h2
    | normal =>
      simp only [] at h2
      split at h2
      · rename_i ps hps; exact main ps hps h2
      · cases h2
    | ret =>
      simp only [] at h2
      split at h2
      · rename_i ps hps; exact main ps hps h2
      · cases h2

theorem evalFn_calls {K : Know} {P : Program} {T : FuncId → Option Summ} (hT : TOk K P T) (hm : P.follows .mixedOrders = true) {f : FuncId} {fn : Func} {c : Code} (hf : P.funcs[f]? = some fn) (hb : fn.body = some c)
    {fuel : Nat} {r : Loc} {args : List AV} {H H' : Hp} {v : AV} {w : World} (h : (evalFn P T fuel fn c args H).run = some (v, H')) (ha : ∀ a ∈ args, a.lt H.length) (hl : ∀ l ∈ H, ∀ c ∈ l, c.lt H.length)
    (hh : HeapIs r H w) (hd : Disj r H) (hk : K.ok w) (hkd : ∀ b o, K.foot b o → ¬ Rng r H b o) :
    Calls P f (args.map (AV.den r)).toArray w fun e w' => e = .returned (v.den r) ∧ HeapIs r H' w' ∧ Fr (Rng r H) w w' ∧ H'.map List.length = H.map List.length ∧ v.lt H.length :=
  evalFnL_calls hT hm hf hb (noL_ok P T fn.ntmps fuel c) h ha hl hh hd hk hkd

theorem summ_of_evalL {K : Know} {P : Program} {T : FuncId → Option Summ} (hT : TOk K P T) (hm : P.follows .mixedOrders = true) {f : FuncId} {fn : Func} {c : Code} (hf : P.funcs[f]? = some fn)
    (hn : (fn.name == "runtime.NumGoroutine") = false) (hb : fn.body = some c) (fuel : Nat) {L : LT} (hL : LOk P T fn.ntmps fuel L c) {s : Summ}
    (h : ∀ args H v H', s.g args H = some (v, H') → s.ck args H = true → (evalFnL P T fuel L fn c args H).run = some (v, H')) : SummOk K P f s :=
  .inr ⟨⟨fn, hf, hn, by rw [hb]; rfl⟩, fun _ args H H' v _ hg hck ha hl hh hd hk hkd => evalFnL_calls hT hm hf hb hL (h args H v H' hg hck) ha hl hh hd hk hkd⟩

theorem summ_of_eval {K : Know} {P : Program} {T : FuncId → Option Summ} (hT : TOk K P T) (hm : P.follows .mixedOrders = true) {f : FuncId} {fn : Func} {c : Code} (hf : P.funcs[f]? = some fn)
    (hn : (fn.name == "runtime.NumGoroutine") = false) (hb : fn.body = some c) (fuel : Nat) {s : Summ}
    (h : ∀ args H v H', s.g args H = some (v, H') → s.ck args H = true → (evalFn P T fuel fn c args H).run = some (v, H')) : SummOk K P f s :=
  .inr ⟨⟨fn, hf, hn, by rw [hb]; rfl⟩, fun _ args H H' v _ hg hck ha hl hh hd hk hkd => evalFn_calls hT hm hf hb (h args H v H' hg hck) ha hl hh hd hk hkd⟩

end Go.Sy
