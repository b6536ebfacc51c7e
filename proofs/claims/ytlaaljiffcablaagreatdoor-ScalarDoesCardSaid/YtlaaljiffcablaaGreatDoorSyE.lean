/-
  A symbolic machine for one call: calls by contract, and the operations that act.
-/
import Derived.Test.YtlaaljiffcablaaGreatDoorSyD
namespace Go.Sy
open Go Go.RowKit

/-! ### Contracts -/
structure Summ where
  /-- the sizes of the objects that the arguments point to, in the arguments' order -/
  ptrs : List Nat
  g : List AV → Hp → Option (AV × Hp)
  /-- what must hold where it is called -/
  ck : List AV → Hp → Bool

@[reducible] def sm (ptrs : List Nat) (g : List AV → Hp → Option (AV × Hp)) : Summ := ⟨ptrs, g, fun _ _ => true⟩

/-- What is known of memory that nobody here writes. -/
structure Know where
  ok : World → Prop
  foot : Nat → Nat → Prop
  bound : ∀ w, ok w → ∀ b o, foot b o → b < w.heap.size
  stable : ∀ w w', ok w → (∀ b o, foot b o → w'.cell? ⟨b, o, none⟩ = w.cell? ⟨b, o, none⟩) → ok w'

def Know.none : Know := ⟨fun _ => True, fun _ _ => False, fun _ _ _ _ h => h.elim, fun _ _ _ _ => trivial⟩

/-- A function that the model answers at once (a library's function that it stands in for). -/
def Ext (P : Program) (f : FuncId) (s : Summ) : Prop := ∀ (r : Loc) (args : List AV) (H H' : Hp) (v : AV) (w : World), s.g args H = some (v, H') → s.ck args H = true →
  (callFunc f (args.map (AV.den r)).toArray).run P w = .ok (.value (v.den r)) w ∧ H' = H ∧ v.lt H.length

def SummOk (K : Know) (P : Program) (f : FuncId) (s : Summ) : Prop := Ext P f s ∨
  (∃ fn, P.funcs[f]? = some fn ∧ (fn.name == "runtime.NumGoroutine") = false ∧ fn.body.isNone = false) ∧
  ∀ (r : Loc) (args : List AV) (H H' : Hp) (v : AV) (w : World), s.g args H = some (v, H') → s.ck args H = true → (∀ a ∈ args, a.lt H.length) → (∀ l ∈ H, ∀ c ∈ l, c.lt H.length) →
    HeapIs r H w → Disj r H → K.ok w → (∀ b o, K.foot b o → ¬ Rng r H b o) →
    Calls P f (args.map (AV.den r)).toArray w fun e w' => e = .returned (v.den r) ∧ HeapIs r H' w' ∧ Fr (Rng r H) w w' ∧ H'.map List.length = H.map List.length ∧ v.lt H.length

def TOk (K : Know) (P : Program) (T : FuncId → Option Summ) : Prop := ∀ f s, T f = some s → SummOk K P f s

/-- The table's contracts, from one world on. -/
def TOkAt (P : Program) (T : FuncId → Option Summ) (w0 : World) (S : Nat → Nat → Prop) : Prop := ∀ f s, T f = some s → Ext P f s ∨
  (∃ fn, P.funcs[f]? = some fn ∧ (fn.name == "runtime.NumGoroutine") = false ∧ fn.body.isNone = false) ∧
  ∀ (r : Loc) (args : List AV) (H H' : Hp) (v : AV) (w : World), s.g args H = some (v, H') → s.ck args H = true → (∀ a ∈ args, a.lt H.length) → (∀ l ∈ H, ∀ c ∈ l, c.lt H.length) →
    HeapIs r H w → Disj r H → Fr S w0 w → (∀ b o, Rng r H b o → w0.heap.size ≤ b ∨ S b o) →
    Calls P f (args.map (AV.den r)).toArray w fun e w' => e = .returned (v.den r) ∧ HeapIs r H' w' ∧ Fr (Rng r H) w w' ∧ H'.map List.length = H.map List.length ∧ v.lt H.length

theorem TOk.at {K : Know} {P : Program} {T : FuncId → Option Summ} (h : TOk K P T) {w0 : World} {S : Nat → Nat → Prop} (hk : K.ok w0) (hS : ∀ b o, K.foot b o → ¬ S b o) : TOkAt P T w0 S := fun f s hs => by
  rcases h f s hs with h0 | ⟨h1, h2⟩
  · exact .inl h0
  refine .inr ⟨h1, fun r args H H' v w hg hck ha hl hh hd hf hr => h2 r args H H' v w hg hck ha hl hh hd ?_ ?_⟩
  · exact K.stable w0 w hk fun b o hb => hf.cell b o (K.bound w0 hk b o hb) (hS b o hb)
  · intro b o hb hr'
    rcases hr b o hr' with h3 | h3
    · exact absurd (K.bound w0 hk b o hb) (by omega)
    · exact hS b o hb h3

/-! ### Values that name no object -/
theorem Cell.toV_lt {n : Nat} {c : Cell} {v : Value} (h : c.toV = some v) : c.lt n := by
  cases c with
  | v x => trivial
  | p j o => cases h
  | clo f caps =>
    cases caps with
    | nil => intro k hk; cases hk
    | cons a b => cases h
  | w k x => trivial
  | s j o sz len cap => cases h

theorem allV_lt {n : Nat} : ∀ {cs : List Cell} {vs : List Value}, allV cs = some vs → ∀ c ∈ cs, c.lt n
  | [], _, _, c, hc => by cases hc
  | x :: l, vs, h, c, hc => by
    simp only [allV] at h
    split at h
    · rename_i v vs' hv hvs
      rcases List.mem_cons.1 hc with rfl | hc
      · exact Cell.toV_lt hv
      · exact allV_lt hvs c hc
    · cases h

theorem Part.toV_lt {n : Nat} {x : Part} {v : Value} (h : x.toV = some v) : x.lt n := by
  cases x with
  | one c => exact Cell.toV_lt h
  | many l =>
    simp only [Part.toV] at h
    split at h
    · rename_i vs hvs; exact allV_lt hvs
    · cases h

theorem allP_lt {n : Nat} : ∀ {l : List Part} {vs : List Value}, allP l = some vs → ∀ x ∈ l, x.lt n
  | [], _, _, c, hc => by cases hc
  | x :: l, vs, h, c, hc => by
    simp only [allP] at h
    split at h
    · rename_i v vs' hv hvs
      rcases List.mem_cons.1 hc with rfl | hc
      · exact Part.toV_lt hv
      · exact allP_lt hvs c hc
    · cases h

theorem AV.toV_lt {n : Nat} {x : AV} {v : Value} (h : x.toV = some v) : x.lt n := by
  cases x with
  | p x => exact Part.toV_lt h
  | t l =>
    simp only [AV.toV] at h
    split at h
    · rename_i vs hvs; exact allP_lt hvs
    · cases h

/-! ### Splitting the arguments -/
structure Split where
  args : List AV
  js : List (Nat × Nat × Nat)
  hs : Hp

def splitArgs (hp : Hp) : List AV → List Nat → Nat → Option Split
  | [], _, _ => some ⟨[], [], []⟩
  | a :: as, ns, k => match a with
    | .p (.one (.s j off sz len cap)) => match nth hp j with
      | none => none
      | some l => match takeX (len * sz) (l.drop off), splitArgs hp as ns (k + 1) with
          | some cs, some s => match allV cs, Nat.ble (off + len * sz) l.length with
            | some _, true => some ⟨AV.c (.s k 0 sz len cap) :: s.args, (j, off, len * sz) :: s.js, cs :: s.hs⟩
            | _, _ => none
          | _, _ => none
    | .p (.one (.p j off)) => match ns with
      | [] => none
      | n :: ns => match nth hp j with
        | none => none
        | some l => match takeX n (l.drop off), splitArgs hp as ns (k + 1) with
          | some cs, some s => match allV cs, Nat.ble (off + n) l.length with
            | some _, true => some ⟨AV.c (.p k 0) :: s.args, (j, off, n) :: s.js, cs :: s.hs⟩
            | _, _ => none
          | _, _ => none
    | a => match a.toV, splitArgs hp as ns k with
      | some _, some s => some ⟨a :: s.args, s.js, s.hs⟩
      | _, _ => none

def rs (r : Loc) (js : List (Nat × Nat × Nat)) : Loc := fun k => match js[k]? with
  | some (j, off, _) => ((r j).1, (r j).2 + off)
  | none => (0, 0)

/-- js holds ranges of hp's objects, hs their cells. -/
def Ranges (hp : Hp) (js : List (Nat × Nat × Nat)) (hs : Hp) : Prop := js.length = hs.length ∧
  ∀ (k j off n : Nat), js[k]? = some (j, off, n) → ∃ (l cs : List Cell) (vs : List Value), hp[j]? = some l ∧ hs[k]? = some cs ∧ cs = (l.drop off).take n ∧ cs.length = n ∧ allV cs = some vs ∧ off + n ≤ l.length

theorem splitArgs_spec {hp : Hp} {r : Loc} : ∀ (as : List AV) (ns : List Nat) (k : Nat) (s : Split), splitArgs hp as ns k = some s →
    Ranges hp s.js s.hs ∧ (∀ (pre : List (Nat × Nat × Nat)), pre.length = k → s.args.map (AV.den (rs r (pre ++ s.js))) = as.map (AV.den r) ∧ ∀ a ∈ s.args, a.lt (pre ++ s.js).length)
  | [], _, k, s, h => by
    simp [splitArgs] at h; subst h
    refine ⟨⟨rfl, fun k j off n h => by simp at h⟩, fun pre _ => ⟨rfl, fun a ha => by cases ha⟩⟩
  | a :: as, ns, k, s, h => by
    unfold splitArgs at h
    split at h
    · rename_i j off sz len cap
      split at h
      · cases h
      rename_i l hl
      rw [nth_eq] at hl
      split at h
      · rename_i cs s' hcs hs'
        split at h
        · rename_i vs hvs hble
          injection h with h; subst h
          obtain ⟨⟨hlen, hr⟩, ha⟩ := splitArgs_spec (r := r) as ns (k + 1) s' hs'
          obtain ⟨t1, t2⟩ := takeX_spec _ _ _ hcs
          refine ⟨⟨by simp [hlen], fun q j' off' n' hq => ?_⟩, fun pre hpre => ?_⟩
          · cases q with
            | zero =>
              simp at hq
              obtain ⟨rfl, rfl, rfl⟩ := hq
              exact ⟨l, cs, vs, hl, rfl, t1, t2, hvs, Nat.le_of_ble_eq_true hble⟩
            | succ q =>
              simp at hq
              obtain ⟨l', cs', vs', e1, e2, e3, e4, e5, e6⟩ := hr q j' off' n' hq
              exact ⟨l', cs', vs', e1, by simpa using e2, e3, e4, e5, e6⟩
          · have h1 := ha (pre ++ [(j, off, len * sz)]) (by simp [hpre])
            rw [List.append_assoc] at h1
            simp only [List.singleton_append] at h1
            refine ⟨?_, fun x hx => ?_⟩
            · simp only [List.map_cons, h1.1]
              congr 1
              simp [AV.den, Part.den, Cell.den, rs, hpre]
            · rcases List.mem_cons.1 hx with rfl | hx
              · show k < _
                simp; omega
              · exact h1.2 x hx
        · cases h
      · cases h
    · rename_i j off
      split at h
      · cases h
      rename_i n ns
      split at h
      · cases h
      rename_i l hl
      rw [nth_eq] at hl
      split at h
      · rename_i cs s' hcs hs'
        split at h
        · rename_i vs hvs hble
          injection h with h; subst h
          obtain ⟨⟨hlen, hr⟩, ha⟩ := splitArgs_spec (r := r) as ns (k + 1) s' hs'
          obtain ⟨t1, t2⟩ := takeX_spec _ _ _ hcs
          refine ⟨⟨by simp [hlen], fun q j' off' n' hq => ?_⟩, fun pre hpre => ?_⟩
          · cases q with
            | zero =>
              simp at hq
              obtain ⟨rfl, rfl, rfl⟩ := hq
              exact ⟨l, cs, vs, hl, rfl, t1, t2, hvs, Nat.le_of_ble_eq_true hble⟩
            | succ q =>
              simp at hq
              obtain ⟨l', cs', vs', e1, e2, e3, e4, e5, e6⟩ := hr q j' off' n' hq
              exact ⟨l', cs', vs', e1, by simpa using e2, e3, e4, e5, e6⟩
          · have h1 := ha (pre ++ [(j, off, n)]) (by simp [hpre])
            rw [List.append_assoc] at h1
            simp only [List.singleton_append] at h1
            refine ⟨?_, fun x hx => ?_⟩
            · simp only [List.map_cons, h1.1]
              congr 1
              simp [AV.den, Part.den, Cell.den, rs, hpre]
            · rcases List.mem_cons.1 hx with rfl | hx
              · show k < _
                simp; omega
              · exact h1.2 x hx
        · cases h
      · cases h
    · split at h
      · rename_i v s' hv hs'
        injection h with h; subst h
        obtain ⟨hr, ha⟩ := splitArgs_spec (r := r) as ns k s' hs'
        refine ⟨hr, fun pre hpre => ?_⟩
        obtain ⟨h1, h2⟩ := ha pre hpre
        refine ⟨by simp only [List.map_cons, h1, AV.den_toV hv], fun x hx => ?_⟩
        rcases List.mem_cons.1 hx with rfl | hx
        · exact AV.toV_lt hv
        · exact h2 x hx
      · cases h

def apart1 (a b : Nat × Nat × Nat) : Bool := !(Nat.beq a.1 b.1) || Nat.ble (a.2.1 + a.2.2) b.2.1 || Nat.ble (b.2.1 + b.2.2) a.2.1

def apartAll : List (Nat × Nat × Nat) → Bool
  | [] => true
  | a :: l => l.all (apart1 a) && apartAll l

theorem apart1_spec {a b : Nat × Nat × Nat} (h : apart1 a b = true) : a.1 ≠ b.1 ∨ a.2.1 + a.2.2 ≤ b.2.1 ∨ b.2.1 + b.2.2 ≤ a.2.1 := by
  unfold apart1 at h
  simp only [Bool.or_eq_true, Bool.not_eq_true'] at h
  rcases h with (h | h) | h
  · exact .inl (fun e => by rw [e] at h; simp at h)
  · exact .inr (.inl (Nat.le_of_ble_eq_true h))
  · exact .inr (.inr (Nat.le_of_ble_eq_true h))

theorem apartAll_spec : ∀ {js : List (Nat × Nat × Nat)}, apartAll js = true → ∀ (k k' : Nat) (a b : Nat × Nat × Nat), js[k]? = some a → js[k']? = some b → k ≠ k' → a.1 ≠ b.1 ∨ a.2.1 + a.2.2 ≤ b.2.1 ∨ b.2.1 + b.2.2 ≤ a.2.1
  | [], _, k, k', a, b, h, _, _ => by simp at h
  | x :: js, h, k, k', a, b, ha, hb, hne => by
    simp only [apartAll, Bool.and_eq_true] at h
    cases k with
    | zero =>
      cases k' with
      | zero => exact absurd rfl hne
      | succ k' =>
        simp at ha hb
        subst ha
        exact apart1_spec (List.all_eq_true.1 h.1 b (List.mem_of_getElem? hb))
    | succ k =>
      cases k' with
      | zero =>
        simp at ha hb
        subst hb
        have := apart1_spec (List.all_eq_true.1 h.1 a (List.mem_of_getElem? ha))
        rcases this with h' | h' | h'
        · exact .inl (Ne.symm h')
        · exact .inr (.inr h')
        · exact .inr (.inl h')
      | succ k' =>
        simp at ha hb
        exact apartAll_spec h.2 k k' a b ha hb (by omega)

theorem denCells_vals {r r' : Loc} {cs : List Cell} {vs : List Value} (h : allV cs = some vs) : denCells r cs = denCells r' cs := by
  rw [denCells_allV h, denCells_allV h]

section
variable {hp : Hp} {js : List (Nat × Nat × Nat)} {hs : Hp} {r : Loc} {w : World}

theorem rs_get {k j off n : Nat} (h : js[k]? = some (j, off, n)) : rs r js k = ((r j).1, (r j).2 + off) := by unfold rs; rw [h]

theorem Ranges.get (hR : Ranges hp js hs) {k : Nat} {cs : List Cell} (hk : hs[k]? = some cs) : ∃ (j off n : Nat) (l : List Cell) (vs : List Value), js[k]? = some (j, off, n) ∧ hp[j]? = some l ∧ cs = (l.drop off).take n ∧ cs.length = n ∧ allV cs = some vs ∧ off + n ≤ l.length := by
  obtain ⟨hlen, hr⟩ := hR
  have hlt : k < js.length := by have := (List.getElem?_eq_some_iff.1 hk).1; omega
  obtain ⟨⟨j, off, n⟩, hj⟩ : ∃ x, js[k]? = some x := ⟨_, List.getElem?_eq_getElem hlt⟩
  obtain ⟨l, cs', vs, h1, h2, h3, h4, h5, h6⟩ := hr k j off n hj
  rw [hk] at h2; injection h2 with h2; subst h2
  exact ⟨j, off, n, l, vs, hj, h1, h3, h4, h5, h6⟩

theorem Ranges.heap (hR : Ranges hp js hs) (hh : HeapIs r hp w) : HeapIs (rs r js) hs w := by
  intro k cs hk
  obtain ⟨j, off, n, l, vs, hj, hl, h3, h4, h5, h6⟩ := hR.get hk
  obtain ⟨g1, g2⟩ := hh j l hl
  rw [rs_get hj, denCells_vals (r' := r) h5]
  refine ⟨fun i v hv => ?_, fun i hi => ?_⟩
  · have : (denCells r l)[off + i]? = some v := by
      rw [h3, denCells_take, denCells_drop, List.getElem?_take] at hv
      split at hv
      · rw [List.getElem?_drop] at hv; exact hv
      · cases hv
    have := g1 (off + i) v this
    rwa [← Nat.add_assoc] at this
  · have := g2 (off + i) (by omega)
    rwa [← Nat.add_assoc] at this

theorem Ranges.rng (hR : Ranges hp js hs) {b o : Nat} (h : Rng (rs r js) hs b o) : Rng r hp b o := by
  obtain ⟨k, cs, i, hk, hi, rfl, rfl⟩ := h
  obtain ⟨j, off, n, l, vs, hj, hl, h3, h4, h5, h6⟩ := hR.get hk
  rw [rs_get hj]
  exact ⟨j, l, off + i, hl, by omega, rfl, by simp only []; omega⟩

theorem Ranges.disj (hR : Ranges hp js hs) (ha : apartAll js = true) (hd : Disj r hp) : Disj (rs r js) hs := by
  intro k k' cs cs' i i' hk hk' hne hi hi'
  obtain ⟨j, off, n, l, vs, hj, hl, h3, h4, h5, h6⟩ := hR.get hk
  obtain ⟨j', off', n', l', vs', hj', hl', h3', h4', h5', h6'⟩ := hR.get hk'
  rw [rs_get hj, rs_get hj']
  have hap := apartAll_spec ha k k' _ _ hj hj' hne
  simp only [] at hap ⊢
  rintro ⟨e1, e2⟩
  by_cases hjj : j = j'
  · subst hjj
    rcases hap with h | h | h
    · exact h rfl
    · omega
    · omega
  · exact hd j j' l l' (off + i) (off' + i') hl hl' hjj (by omega) (by omega) ⟨e1, by omega⟩

/-- Each range is written back. -/
def wb : Hp → List (Nat × Nat × Nat) → Hp → Option Hp
  | hp, [], [] => some hp
  | hp, (j, off, _) :: js, cs :: hs => match allV cs, setR hp j off cs with
    | some _, some hp' => wb hp' js hs
    | _, _ => none
  | _, _, _ => none

theorem wb_spec : ∀ (js : List (Nat × Nat × Nat)) (hs' hp hp' : Hp), wb hp js hs' = some hp' →
    hp'.length = hp.length ∧ (∀ (j : Nat) (l' : List Cell), hp'[j]? = some l' → ∃ l : List Cell, hp[j]? = some l ∧ l'.length = l.length ∧ ∀ i, i < l.length →
      (∃ (k off n : Nat) (cs : List Cell), js[k]? = some (j, off, n) ∧ hs'[k]? = some cs ∧ off ≤ i ∧ i < off + cs.length ∧ l'[i]? = cs[i - off]?) ∨
      ((∀ (k off n : Nat) (cs : List Cell), js[k]? = some (j, off, n) → hs'[k]? = some cs → ¬ (off ≤ i ∧ i < off + cs.length)) ∧ l'[i]? = l[i]?)) ∧
    (∀ (k : Nat) (cs : List Cell), hs'[k]? = some cs → ∃ vs, allV cs = some vs)
  | [], [], hp, hp', h => by
    simp [wb] at h; subst h
    refine ⟨rfl, fun j l' hl => ⟨l', hl, rfl, fun i hi => .inr ⟨fun k off n cs h => by simp at h, rfl⟩⟩, fun k cs h => by simp at h⟩
  | [], _ :: _, _, _, h => by simp [wb] at h
  | _ :: _, [], _, _, h => by simp [wb] at h
  | (j0, off0, n0) :: js, cs0 :: hs', hp, hp', h => by
    simp only [wb] at h
    split at h
    · rename_i vs hp1 hvs hset
      obtain ⟨l0, hl0, hle, rfl⟩ := setR_spec hset
      obtain ⟨g1, g2, g3⟩ := wb_spec js hs' _ hp' h
      have hj0 : j0 < hp.length := (List.getElem?_eq_some_iff.1 hl0).1
      refine ⟨by rw [g1, List.length_set], fun j l' hj => ?_, fun k cs hk => ?_⟩
      · obtain ⟨l1, hl1, hlen, hc⟩ := g2 j l' hj
        have hl : ∃ l : List Cell, hp[j]? = some l ∧ l1.length = l.length ∧ ∀ i, l1[i]? = if j = j0 ∧ off0 ≤ i ∧ i < off0 + cs0.length then cs0[i - off0]? else l[i]? := by
          rw [List.getElem?_set] at hl1
          by_cases hjj : j0 = j
          · subst hjj
            rw [if_pos rfl, if_pos hj0] at hl1
            injection hl1 with hl1; subst hl1
            refine ⟨l0, hl0, putR_length hle, fun i => ?_⟩
            rw [putR_getElem? hle]
            simp
          · rw [if_neg hjj] at hl1
            exact ⟨l1, hl1, rfl, fun i => by rw [if_neg (fun e => hjj e.1.symm)]⟩
        obtain ⟨l, hl, hll, hcell⟩ := hl
        refine ⟨l, hl, by omega, fun i hi => ?_⟩
        rcases hc i (by omega) with ⟨k, off, n, cs, a1, a2, a3, a4, a5⟩ | ⟨a1, a2⟩
        · exact .inl ⟨k + 1, off, n, cs, by simpa using a1, by simpa using a2, a3, a4, a5⟩
        · rw [hcell i] at a2
          by_cases hin : j = j0 ∧ off0 ≤ i ∧ i < off0 + cs0.length
          · rw [if_pos hin] at a2
            obtain ⟨rfl, b1, b2⟩ := hin
            exact .inl ⟨0, off0, n0, cs0, rfl, rfl, b1, b2, a2⟩
          · rw [if_neg hin] at a2
            refine .inr ⟨fun k off n cs hk hcs => ?_, a2⟩
            cases k with
            | zero =>
              simp at hk hcs
              obtain ⟨rfl, rfl, rfl⟩ := hk
              subst hcs
              exact fun e => hin ⟨rfl, e⟩
            | succ k => exact a1 k off n cs (by simpa using hk) (by simpa using hcs)
      · cases k with
        | zero => simp at hk; subst hk; exact ⟨vs, hvs⟩
        | succ k => exact g3 k cs (by simpa using hk)
    · cases h

theorem map_length_get {H H' : Hp} (h : H'.map List.length = H.map List.length) {k : Nat} {cs : List Cell} (hk : H'[k]? = some cs) : ∃ cs0, H[k]? = some cs0 ∧ cs0.length = cs.length := by
  have h1 : (H'.map List.length)[k]? = some cs.length := by rw [List.getElem?_map, hk]; rfl
  rw [h, List.getElem?_map] at h1
  cases hc : H[k]? with
  | none => rw [hc] at h1; cases h1
  | some cs0 => rw [hc] at h1; simp at h1; exact ⟨cs0, rfl, h1⟩

theorem Mem.call {w0 : World} {S : Nat → Nat → Prop} {m : Nat} {r0 : Loc} {w' : World} {hs' hp' : Hp} (h : Mem w0 S m r0 r hp w) (hR : Ranges hp js hs)
    (hh : HeapIs (rs r js) hs' w') (hf : Fr (Rng (rs r js) hs) w w') (hlen : hs'.map List.length = hs.map List.length) (hw : wb hp js hs' = some hp') : Mem w0 S m r0 r hp' w' := by
  obtain ⟨g1, g2, g3⟩ := wb_spec js hs' hp hp' hw
  have hrng : ∀ b o, Rng r hp' b o → Rng r hp b o := by
    rintro b o ⟨j, l', i, hj, hi, rfl, rfl⟩
    obtain ⟨l, hl, hll, _⟩ := g2 j l' hj
    exact ⟨j, l, i, hl, by omega, rfl, rfl⟩
  have hcell : ∀ (j : Nat) (l' : List Cell), hp'[j]? = some l' → ∀ i, i < l'.length → ∃ c, l'[i]? = some c ∧ w'.cell? ⟨(r j).1, (r j).2 + i, none⟩ = some (c.den r) ∧ c.lt hp.length := by
    intro j l' hj i hi
    obtain ⟨l, hl, hll, hc⟩ := g2 j l' hj
    rcases hc i (by omega) with ⟨k, off, n, cs, a1, a2, a3, a4, a5⟩ | ⟨a1, a2⟩
    · have hlt : i - off < cs.length := by omega
      obtain ⟨vs, hvs⟩ := g3 k cs a2
      have hci : cs[i - off]? = some cs[i - off] := List.getElem?_eq_getElem hlt
      refine ⟨cs[i - off], by rw [a5, hci], ?_, allV_lt hvs _ (List.mem_of_getElem? hci)⟩
      have := (hh k cs a2).1 (i - off) ((cs[i - off]).den r) (by rw [denCells_vals (r' := r) hvs, denCells_getElem?, hci]; rfl)
      rw [rs_get a1] at this
      simp only [] at this
      rwa [show (r j).2 + off + (i - off) = (r j).2 + i by omega] at this
    · have hci : l[i]? = some (l[i]'(by omega)) := List.getElem?_eq_getElem _
      refine ⟨_, by rw [a2, hci], ?_, h.hlt l (List.mem_of_getElem? hl) _ (List.mem_of_getElem? hci)⟩
      rw [hf.cell _ _ (h.heap.lt (i := i) hl (by omega)) ?_]
      · exact (h.heap j l hl).1 i _ (by rw [denCells_getElem?, hci]; rfl)
      · rintro ⟨k, cs, i', hk, hi', e1, e2⟩
        obtain ⟨j1, off1, n1, l1, vs1, b1, b2, b3, b4, b5, b6⟩ := hR.get hk
        rw [rs_get b1] at e1 e2
        simp only [] at e1 e2
        have hjj : j1 = j := by
          refine Classical.byContradiction fun hne => ?_
          exact h.disj j1 j l1 l (off1 + i') i b2 hl hne (by omega) (by omega) ⟨e1.symm, by omega⟩
        subst hjj
        obtain ⟨cs', hk', hl'⟩ := map_length_get hlen.symm hk
        exact a1 k off1 n1 cs' b1 hk' ⟨by omega, by omega⟩
  refine ⟨?_, ?_, ?_, ?_, ?_, h.par, ?_⟩
  · intro j l' hj
    obtain ⟨l, hl, hll, _⟩ := g2 j l' hj
    refine ⟨fun i v hv => ?_, fun i hi => ?_⟩
    · have hi : i < l'.length := by have := (List.getElem?_eq_some_iff.1 hv).1; rwa [denCells_length] at this
      obtain ⟨c, hc, hw, _⟩ := hcell j l' hj i hi
      rw [denCells_getElem?, hc] at hv
      injection hv with hv; subst hv
      exact hw
    · obtain ⟨c, hc, hw, _⟩ := hcell j l' hj i hi
      rw [hw, hf.frozen _ _ (h.heap.lt (i := i) hl (by omega))]
      exact ⟨rfl, ((h.heap j l hl).2 i (by omega)).2⟩
  · intro j j' l l' i i' hj hj' hne hi hi'
    obtain ⟨y, hy, hyl, _⟩ := g2 j l hj
    obtain ⟨y', hy', hyl', _⟩ := g2 j' l' hj'
    exact h.disj j j' y y' i i' hy hy' hne (by omega) (by omega)
  · intro l hl c hc
    obtain ⟨j, hj⟩ := List.mem_iff_getElem?.1 hl
    obtain ⟨i, hi⟩ := List.mem_iff_getElem?.1 hc
    have hil : i < l.length := (List.getElem?_eq_some_iff.1 hi).1
    obtain ⟨c', hc', _, hlt⟩ := hcell j l hj i hil
    rw [hi] at hc'; injection hc' with hc'; subst hc'
    rw [g1]; exact hlt
  · exact h.frame.trans hf (fun b o hb hs => by
      rcases h.fresh b o (hR.rng hs) with h' | h'
      · omega
      · exact h')
  · intro b o hbo; exact h.fresh b o (hrng b o hbo)
  · rw [g1]; exact h.mle

end

end Go.Sy
