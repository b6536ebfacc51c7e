/-
  Ledgers, in plain words: the map's keys are what is held, in order.
-/
import Derived.Test.YtebimchjglckoaaSoU
namespace Go.So
open Go Go.Sy Go.Sz
set_option linter.unusedVariables false
set_option linter.unusedSimpArgs false

def ids (m : Helds) : Ints := m.map fun z => (z.1, ())
def Rise : Int → Helds → Prop
  | _, [] => True
  | b, z :: m => b < z.1 ∧ Rise z.1 m
/-- one event, as the law plays it: the next number, what is held -/
def play1 (s : Int × Ints) (v : Bool × Int × Int × Unit) : Option (Int × Ints) :=
  bif v.1 then (bif decide (lastF v.2.1 s.2 0 (-1) < 0) then none else some (s.1, s.2.take (lastF v.2.1 s.2 0 (-1)).toNat ++ s.2.drop ((lastF v.2.1 s.2 0 (-1)).toNat + 1)))
  else bif decide (v.2.1 = s.1) then some (s.1 + 1, s.2 ++ [(v.2.1, ())]) else none
def replay : Int × Ints → Evs → Option (Int × Ints)
  | s, [] => some s
  | s, v :: e => (play1 s v).bind fun s => replay s e
theorem replay_append : ∀ (e : Evs) (s : Int × Ints) (f : Evs), replay s (e ++ f) = (replay s e).bind fun s => replay s f
  | [], s, f => rfl
  | v :: e, s, f => by
    simp only [List.cons_append, replay]
    cases play1 s v with
    | none => rfl
    | some s => exact replay_append e s f
theorem lastF_none : ∀ (h : Ints) (c k t : Int), (∀ z ∈ h, z.1 ≠ c) → lastF c h k t = t
  | [], c, k, t, _ => rfl
  | z :: h, c, k, t, hz => by
    have h1 : (z.1 == c) = false := beq_false_of_ne (hz z (.head _))
    simp only [lastF, h1, cond_false]
    exact lastF_none h c (k + 1) t fun z hm => hz z (.tail _ hm)
theorem Rise.mono : ∀ {m : Helds} {b c : Int}, c ≤ b → Rise b m → Rise c m
  | [], _, _, _, _ => trivial
  | z :: m, b, c, h, ⟨h1, h2⟩ => ⟨by omega, h2⟩
theorem Rise.all : ∀ {m : Helds} {b : Int}, Rise b m → ∀ z ∈ m, b < z.1
  | z :: m, b, ⟨h1, h2⟩, y, hy => by
    rcases List.mem_cons.1 hy with rfl | hy
    · exact h1
    · have := Rise.all h2 y hy; omega
theorem setH_new : ∀ {m : Helds} {i : Int} {v : HeldV}, (∀ z ∈ m, z.1 ≠ i) → setH i v m = m ++ [(i, v)]
  | [], i, v, _ => rfl
  | z :: m, i, v, h => by
    have h1 : eqK (.i .i64) i z.1 = false := by
      show (decide _ : Bool) = false
      exact decide_eq_false fun e => h z (.head _) (e.symm)
    have ih := setH_new (v := v) fun z hz => h z (.tail _ hz)
    unfold setH at ih ⊢
    simp only [setM, h1, cond_false, List.cons_append]
    exact congrArg (z :: ·) ih
theorem eqI (a b : Int) : eqK (.i .i64) a b = (a == b) := rfl
theorem findH_some : ∀ {m : Helds} {i : Int}, (findH i m).isSome = true → ∃ z ∈ m, z.1 = i
  | [], i, h => by cases h
  | z :: m, i, h => by
    by_cases e : i = z.1
    · exact ⟨z, .head _, e.symm⟩
    · have h1 : eqK (.i .i64) i z.1 = false := by rw [eqI]; exact beq_false_of_ne e
      unfold findH at h
      simp only [findM, h1, cond_false] at h
      obtain ⟨y, hy, hi⟩ := findH_some (m := m) h
      exact ⟨y, .tail _ hy, hi⟩
theorem del_law : ∀ {m : Helds} {b i k t : Int}, Rise b m → (∃ z ∈ m, z.1 = i) → ∃ j : Nat, j < m.length ∧ lastF i (ids m) k t = k + j ∧ ids (delH i m) = (ids m).take j ++ (ids m).drop (j + 1)
  | [], b, i, k, t, _, ⟨_, h, _⟩ => by cases h
  | z :: m, b, i, k, t, ⟨h1, h2⟩, ⟨y, hy, hi⟩ => by
    by_cases e : i = z.1
    · have h3 : eqK (.i .i64) i z.1 = true := by rw [eqI, e]; exact beq_self_eq_true _
      have h4 : (z.1 == i) = true := by rw [e]; exact beq_self_eq_true _
      refine ⟨0, Nat.succ_pos _, ?_, ?_⟩
      · simp only [ids, List.map_cons, lastF, h4, cond_true]
        rw [lastF_none]
        · simp
        · intro q hq
          obtain ⟨w, hw, rfl⟩ := List.mem_map.1 hq
          have := h2.all w hw
          show w.1 ≠ i
          omega
      · unfold delH
        simp only [delM, h3, cond_true]
        rfl
    · have h3 : eqK (.i .i64) i z.1 = false := by rw [eqI]; exact beq_false_of_ne e
      have h4 : (z.1 == i) = false := beq_false_of_ne (Ne.symm e)
      have hy' : y ∈ m := by
        rcases List.mem_cons.1 hy with rfl | h
        · exact absurd hi.symm e
        · exact h
      obtain ⟨j, g1, g2, g3⟩ := del_law (k := k + 1) (t := t) h2 ⟨y, hy', hi⟩
      refine ⟨j + 1, Nat.succ_lt_succ g1, ?_, ?_⟩
      · have : lastF i (ids (z :: m)) k t = lastF i (ids m) (k + 1) t := by
          simp only [ids, List.map_cons, lastF, h4, cond_false]
        rw [this, g2]; omega
      · have : ids (delH i (z :: m)) = (z.1, ()) :: ids (delH i m) := by
          unfold delH
          simp only [delM, h3, cond_false]
          rfl
        rw [this, g3]; rfl
theorem Rise.del : ∀ {m : Helds} {b i : Int}, Rise b m → Rise b (delH i m)
  | [], _, _, _ => trivial
  | z :: m, b, i, ⟨h1, h2⟩ => by
    by_cases e : i = z.1
    · have h3 : eqK (.i .i64) i z.1 = true := by rw [eqI, e]; exact beq_self_eq_true _
      have : delH i (z :: m) = m := by
        unfold delH
        simp only [delM, h3, cond_true]
      rw [this]
      exact h2.mono (by omega)
    · have h3 : eqK (.i .i64) i z.1 = false := by rw [eqI]; exact beq_false_of_ne e
      have : delH i (z :: m) = z :: delH i m := by
        unfold delH
        simp only [delM, h3, cond_false]
      rw [this]
      exact ⟨h1, h2.del⟩
theorem Rise.put : ∀ {m : Helds} {b x : Int} {v : HeldV}, Rise b m → b ≤ x → (∀ z ∈ m, z.1 ≤ x) → Rise b (m ++ [(x + 1, v)])
  | [], b, x, v, _, hb, _ => ⟨by show b < x + 1; omega, trivial⟩
  | z :: m, b, x, v, ⟨h1, h2⟩, hb, hx => ⟨h1, h2.put (hx z (.head _)) fun y hy => hx y (.tail _ hy)⟩
/-- a ledger: the last number, what is held, its events -/
abbrev Led := Int × Helds × Evs
def acqL (n w : Int) (s : Led) : Led := bif decide ((256 : Int) ≤ (s.2.1.length : Int)) then s else (s.1 + 1, setH (s.1 + 1) (n, w, ()) s.2.1, s.2.2 ++ [(false, s.1 + 1, n, ())])
def relL (i n : Int) (s : Led) : Led := bif !(findH i s.2.1).isSome then s else (s.1, delH i s.2.1, s.2.2 ++ [(true, i, n, ())])
def stepL (s : Led) (z : Int × Int × Int × Int × Unit) : Led := bif Int.tmod z.1 2 == 0 then acqL z.2.2.1 z.2.2.2.1 s else relL z.2.1 z.2.2.1 s
def acqN : Nat → Int → Led → Led
  | 0, _, s => s
  | k + 1, i, s => acqN k (i + 1) (acqL 9 i s)
structure LedI (s : Led) : Prop where
  rise : Rise 0 s.2.1
  le : ∀ z ∈ s.2.1, z.1 ≤ s.1
  nn : 0 ≤ s.1
  few : s.2.1.length ≤ 256
  play : replay (1, []) s.2.2 = some (s.1 + 1, ids s.2.1)
theorem LedI.new : LedI (0, [], []) := ⟨trivial, (fun z h => by cases h), Int.le_refl _, Nat.zero_le _, rfl⟩
theorem LedI.acq {s : Led} (h : LedI s) (n w : Int) : LedI (acqL n w s) := by
  obtain ⟨x, m, e⟩ := s
  unfold acqL
  by_cases hm : (256 : Int) ≤ (m.length : Int)
  · rw [decide_eq_true hm]; exact h
  · rw [decide_eq_false hm]
    have hn := setH_new (m := m) (i := x + 1) (v := (n, w, ())) fun z hz => by have := h.le z hz; show z.1 ≠ x + 1; omega
    show LedI (x + 1, setH (x + 1) (n, w, ()) m, e ++ [(false, x + 1, n, ())])
    rw [hn]
    refine ⟨h.rise.put h.nn h.le, ?_, ?_, ?_, ?_⟩
    · intro z hz
      rcases List.mem_append.1 hz with hz | hz
      · have := h.le z hz; show z.1 ≤ x + 1; omega
      · rcases List.mem_singleton.1 hz with rfl; exact Int.le_refl _
    · have := h.nn; show 0 ≤ x + 1; omega
    · show (m ++ [_]).length ≤ 256
      rw [List.length_append]; simp; omega
    · show replay (1, []) (e ++ [(false, x + 1, n, ())]) = _
      rw [replay_append, h.play]
      show (play1 (x + 1, ids m) (false, x + 1, n, ())).bind _ = _
      simp only [play1, cond_false, decide_true, cond_true, Option.bind_some, replay]
      simp [ids]
theorem LedI.rel {s : Led} (h : LedI s) (i n : Int) : LedI (relL i n s) := by
  obtain ⟨x, m, e⟩ := s
  unfold relL
  cases hb : (findH i m).isSome with
  | false => exact h
  | true =>
    show LedI (x, delH i m, e ++ [(true, i, n, ())])
    obtain ⟨j, g1, g2, g3⟩ := del_law (k := 0) (t := -1) h.rise (findH_some hb)
    have hsub : ∀ {m : Helds} {z}, z ∈ delH i m → z ∈ m := by
      intro m
      induction m with
      | nil => intro z hz; exact hz
      | cons y m ih =>
        intro z hz
        unfold delH at hz ih
        simp only [delM] at hz
        cases hq : eqK (.i .i64) i y.1 with
        | true => rw [hq] at hz; exact .tail _ hz
        | false =>
          rw [hq] at hz
          rcases List.mem_cons.1 hz with rfl | hz
          · exact .head _
          · exact .tail _ (ih hz)
    have hlen : (ids (delH i m)).length ≤ (ids m).length := by rw [g3]; simp; omega
    refine ⟨h.rise.del, fun z hz => h.le z (hsub hz), h.nn, ?_, ?_⟩
    · have := h.few
      simp only [ids, List.length_map] at hlen
      show (delH i m).length ≤ 256
      have h2 : m.length ≤ 256 := this
      omega
    · show replay (1, []) (e ++ [(true, i, n, ())]) = _
      rw [replay_append, h.play]
      show (play1 (x + 1, ids m) (true, i, n, ())).bind _ = _
      have h0 : decide (lastF i (ids m) 0 (-1) < 0) = false := decide_eq_false (by rw [g2]; omega)
      simp only [play1, cond_true, h0, cond_false, Option.bind_some, replay, g2, g3]
      simp
      rw [show decide ((j : Int) < 0) = false from decide_eq_false (by omega)]
      rfl
theorem LedI.step {s : Led} (h : LedI s) (z : Int × Int × Int × Int × Unit) : LedI (stepL s z) := by
  unfold stepL
  cases (Int.tmod z.1 2 == 0) with
  | true => exact h.acq _ _
  | false => exact h.rel _ _
theorem lastF_le : ∀ (h : Ints) (c k t B : Int), t ≤ B → k + h.length - 1 ≤ B → lastF c h k t ≤ B
  | [], c, k, t, B, h1, _ => h1
  | z :: h, c, k, t, B, h1, h2 => by
    simp only [List.length_cons] at h2
    simp only [lastF]
    refine lastF_le h c (k + 1) _ B ?_ (by omega)
    cases (z.1 == c) with
    | true => show k ≤ B; omega
    | false => exact h1
theorem acqL_le (n w : Int) (s : Led) : (acqL n w s).1 ≤ s.1 + 1 ∧ (acqL n w s).2.2.length ≤ s.2.2.length + 1 := by
  unfold acqL
  cases decide ((256 : Int) ≤ (s.2.1.length : Int)) with
  | true => exact ⟨by show s.1 ≤ s.1 + 1; omega, Nat.le_succ _⟩
  | false => exact ⟨Int.le_refl _, by simp⟩
theorem relL_le (i n : Int) (s : Led) : (relL i n s).1 ≤ s.1 + 1 ∧ (relL i n s).2.2.length ≤ s.2.2.length + 1 := by
  unfold relL
  cases (!(findH i s.2.1).isSome) with
  | true => exact ⟨by show s.1 ≤ s.1 + 1; omega, Nat.le_succ _⟩
  | false => exact ⟨by show s.1 ≤ s.1 + 1; omega, by simp⟩
theorem stepL_le (s : Led) (z : Int × Int × Int × Int × Unit) : (stepL s z).1 ≤ s.1 + 1 ∧ (stepL s z).2.2.length ≤ s.2.2.length + 1 := by
  unfold stepL
  cases (Int.tmod z.1 2 == 0) with
  | true => exact acqL_le _ _ _
  | false => exact relL_le _ _ _
theorem acqN_all : ∀ (k : Nat) (i : Int) (s : Led), LedI s → LedI (acqN k i s) ∧ (acqN k i s).1 ≤ s.1 + k ∧ (acqN k i s).2.2.length ≤ s.2.2.length + k
  | 0, _, s, h => ⟨h, by show s.1 ≤ _; omega, Nat.le_refl _⟩
  | k + 1, i, s, h => by
    obtain ⟨h1, h2, h3⟩ := acqN_all k (i + 1) (acqL 9 i s) (h.acq 9 i)
    obtain ⟨g1, g2⟩ := acqL_le 9 i s
    exact ⟨h1, by show (acqN k (i + 1) (acqL 9 i s)).1 ≤ _; omega, by show (acqN k (i + 1) (acqL 9 i s)).2.2.length ≤ _; omega⟩
theorem stepN_all : ∀ (l : Stps) (s : Led), LedI s → LedI (l.foldl stepL s) ∧ (l.foldl stepL s).1 ≤ s.1 + l.length ∧ (l.foldl stepL s).2.2.length ≤ s.2.2.length + l.length
  | [], s, h => ⟨h, by show s.1 ≤ _; omega, Nat.le_refl _⟩
  | z :: l, s, h => by
    obtain ⟨h1, h2, h3⟩ := stepN_all l (stepL s z) (h.step z)
    obtain ⟨g1, g2⟩ := stepL_le s z
    simp only [List.length_cons, List.foldl_cons]
    exact ⟨h1, by omega, by omega⟩
end Go.So
