/-
  The document's tables and ledgers: what their functions tell.
-/
import Derived.Test.YtebimchjglckoaaSoW
import Derived.Test.YtebimchjglckoaaSoT
import Derived.Test.YtebimchjglckoaaSzAJ
namespace Go.So
open Go Go.Sy Go.Sz
set_option linter.unusedVariables false
set_option linter.unusedSimpArgs false

@[reducible] def h3T : Tys := .cons (.i .i64) (.cons (.i .i64) (.cons (.i .i64) .nil))
def rtabH (b : Rws) (c : Ints) : List Ob := [.lit [.h 1, .h 2], .row rowsT b, .row intsT c]
def rtabHp (b : Rws) (c : Ints) : Hp := [(0, .lit [.h 1, .h 2]), (1, .row rowsT b), (2, .row intsT c)]
def rntG (b : Rws) (i : Int) (a : Rws) (c : Ints) : Tree (Ex × St) :=
  .ite ((b.drop i.toNat).all good) (.ret (.exit 0, ⟨[(4, .p (.one (.p 0 0)))], rtabHp (a ++ b.drop i.toNat) (c ++ ones (b.drop i.toNat).length), 3⟩))
    (.ret (.ret, ⟨[(2, AV.c (.v (.pointer none))), (3, AV.c (.v (.int .i64 112))), (4, .p (.one (.p 0 0)))], rtabHp (a ++ goods (b.drop i.toNat)) (c ++ ones (goods (b.drop i.toNat)).length), 3⟩))
def rnewTab (b : Rws) : Tree (AV × List Ob) :=
  .ite (decide (16 < b.length)) (.ret (.t [.one (.v (.pointer none)), .one (.v (.int .i64 111))], []))
    (.ite (b.all good) (.ret (.t [.one (.p 0 0), .one (.v (.int .i64 0))], rtabH b (ones b.length))) (.ret (.t [.one (.v (.pointer none)), .one (.v (.int .i64 112))], [])))
noncomputable def rfieldT (i off size : Int) (b : Rws) (c : Ints) : Tree (AV × List Ob) :=
  .ite (decide (i < 0) || decide ((b.length : Int) ≤ i)) (.ret (twoA z64 8, rtabH b c))
    (.ite (fits off size) (ckP ((b.getD i.toNat ([], ())).1.length = 20) (.ret (twoA (fieldV (b.getD i.toNat ([], ())).1 off size) 0, rtabH b c))) (.ret (twoA z64 12, rtabH b c)))
/-- the document's list of what is held is the map's -/
def obR (x : Int) (j k : Nat) : Ob := .lit [.v (.int .i64 x), .h j, .h k]
def rledHp (x : Int) (m : Helds) (e : Evs) : Hp := [(0, obR x 1 2), (1, .row h3T m), (2, .row evT e)]
theorem findH_cons_ne {i : Int} {z : Int × Int × Int × Unit} {m : Helds} (h : z.1 ≠ i) : findH i (z :: m) = findH i m ∧ delH i (z :: m) = z :: delH i m := by
  have h3 : eqK (.i .i64) i z.1 = false := by rw [eqI]; exact beq_false_of_ne (Ne.symm h)
  unfold findH delH
  simp only [findM, delM, h3, cond_false]
  exact ⟨trivial, trivial⟩
theorem findH_cons_eq {i : Int} {z : Int × Int × Int × Unit} {m : Helds} (h : z.1 = i) : findH i (z :: m) = some z.2 ∧ delH i (z :: m) = m := by
  have h3 : eqK (.i .i64) i z.1 = true := by rw [eqI, h]; exact beq_self_eq_true _
  unfold findH delH
  simp only [findM, delM, h3, cond_true]
  exact ⟨trivial, trivial⟩
def noH (i : Int) (m : Helds) : Bool := !(findH i m).isSome
def valH (i : Int) (m : Helds) : Int × Int × Unit := (findH i m).getD (0, 0, ())
/-- Release of the document, from a place on -/
def rrelG (x : Int) (m : Helds) (e : Evs) (id hp i : Int) : Tree (Ex × St) :=
  .ite (noH id (m.drop i.toNat)) (.ret (.exit 0, ⟨[], rledHp x m e, 3⟩))
    (.ret (.ret, ⟨[(6, AV.c (.v (.int .i64 (valH id (m.drop i.toNat)).2.1))), (7, AV.c (.v (.int .i64 0)))], [(0, obR x 3 4), (1, .dead), (2, .dead), (3, .row h3T (m.take i.toNat ++ delH id (m.drop i.toNat))), (4, .row evT (e ++ [(true, id, hp, ())]))], 5⟩))
def rwhatG (x : Int) (m : Helds) (e : Evs) (id i : Int) : Tree (Ex × St) :=
  .ite (noH id (m.drop i.toNat)) (.ret (.exit 0, ⟨[], rledHp x m e, 3⟩))
    (.ret (.ret, ⟨[(4, AV.c (.v (.int .i64 (valH id (m.drop i.toNat)).1))), (5, AV.c (.v (.int .i64 (valH id (m.drop i.toNat)).2.1))), (6, AV.c (.v (.bool true)))], rledHp x m e, 3⟩))
theorem h_end {id i : Int} {m : Helds} (h : m.length ≤ i.toNat) : noH id (m.drop i.toNat) = true := by
  rw [List.drop_eq_nil_of_le h]; rfl
theorem h_step {id i : Int} {m : Helds} (h0 : 0 ≤ i) (h : i.toNat < m.length) (hn : (m.getD i.toNat (0, 0, 0, ())).1 ≠ id) : noH id (m.drop i.toNat) = noH id (m.drop (i + 1).toNat) ∧ valH id (m.drop i.toNat) = valH id (m.drop (i + 1).toNat) ∧ m.take i.toNat ++ delH id (m.drop i.toNat) = m.take (i + 1).toNat ++ delH id (m.drop (i + 1).toNat) := by
  have hd : m.drop i.toNat = m.getD i.toNat (0, 0, 0, ()) :: m.drop (i.toNat + 1) := drop_cons h _
  obtain ⟨g1, g2⟩ := findH_cons_ne (m := m.drop (i.toNat + 1)) hn
  rw [toNat_succ h0]
  unfold noH valH
  rw [hd, g1, g2]
  refine ⟨rfl, rfl, ?_⟩
  have : m.take (i.toNat + 1) = m.take i.toNat ++ [m.getD i.toNat (0, 0, 0, ())] := by
    rw [List.take_succ_eq_append_getElem h]
    simp [List.getD, List.getElem?_eq_getElem h]
  rw [this]; simp
theorem h_here {id i : Int} {m : Helds} (h : i.toNat < m.length) (hn : (m.getD i.toNat (0, 0, 0, ())).1 = id) : noH id (m.drop i.toNat) = false ∧ valH id (m.drop i.toNat) = (m.getD i.toNat (0, 0, 0, ())).2 ∧ delH id (m.drop i.toNat) = m.drop (i.toNat + 1) := by
  have hd : m.drop i.toNat = m.getD i.toNat (0, 0, 0, ()) :: m.drop (i.toNat + 1) := drop_cons h _
  obtain ⟨g1, g2⟩ := findH_cons_eq (m := m.drop (i.toNat + 1)) hn
  unfold noH valH
  rw [hd, g1, g2]
  exact ⟨rfl, rfl, rfl⟩
def wideF (off : Int) : Int := bif off == 0 || off == 4 || off == 8 || off == 16 then 4 else bif off == 12 || off == 14 then 2 else 0
def badF (size n : Int) : Bool := (size != 1 && (size != 2 && (size != 4 && size != 8))) || decide (n < size)
theorem badF_fits {off size : Int} : badF size (wideF off) = !fits off size := by
  unfold badF wideF fits
  cases hb : (off == 0 || off == 4 || off == 8 || off == 16) with
  | true =>
    simp only [cond_true]
    rw [Bool.eq_iff_iff]; simp; omega
  | false =>
    simp only [cond_false]
    cases hb : (off == 12 || off == 14) with
    | true =>
      simp only [cond_true]
      rw [Bool.eq_iff_iff]; simp; omega
    | false =>
      simp only [cond_false]
      rw [Bool.eq_iff_iff]; simp; omega
def shorts (x : Bys × Unit) : Bool := decide ((x.1.length : Int) ≤ 100)
/-- tables and ledgers of both tell the same -/
structure PlI (l : Stps) (i x x2 : Int) (c : Ints) (b b2 : Rws) (c2 : Ints) (m : Helds) (e : Evs) (m2 : Helds) (e2 : Evs) : Prop where
  hx : x2 = x
  hc : c2 = c
  hb : b2 = b
  hm : m2 = m
  he : e2 = e
  i0 : 0 ≤ i
  ll : l.length ≤ 80
  il : i ≤ l.length
  bl : b.length = c.length
  b16 : b.length ≤ 16
  goo : ∀ z ∈ b, z.1.length = 20
  bnd : bounded c (i + 1)
  rise : Rise 0 m
  le : ∀ z ∈ m, z.1 ≤ x
  nn : 0 ≤ x
  xi : x ≤ i
  mi : (m.length : Int) ≤ i
  ei : (e.length : Int) ≤ i
def PlT (x x2 : Int) (c : Ints) (b b2 : Rws) (c2 : Ints) (m : Helds) (e : Evs) (m2 : Helds) (e2 : Evs) (k : Bool) : Prop :=
  k = true ∧ c2 = c ∧ m2 = m ∧ e2 = e ∧ b2.length = c.length ∧ c.length ≤ 1000 ∧ Rise 0 m ∧ m.length ≤ 1000 ∧ e.length ≤ 1000
def plHp (x x2 : Int) (c : Ints) (b b2 : Rws) (c2 : Ints) (m : Helds) (e : Evs) (m2 : Helds) (e2 : Evs) : Hp :=
  [(0, .lit [.h 4, .h 5]), (1, .lit [.h 6, .h 7]), (2, obR x 8 9), (3, obR x2 10 11), (4, .row intsT c), (5, .row rowsT b), (6, .row rowsT b2), (7, .row intsT c2), (8, .mp (.i .i64) heldT m), (9, .row evT e), (10, .row h3T m2), (11, .row evT e2)]
theorem del_sub {i : Int} : ∀ {m : Helds} {z}, z ∈ delH i m → z ∈ m
  | [], z, hz => hz
  | y :: m, z, hz => by
    by_cases h : y.1 = i
    · rw [(findH_cons_eq h).2] at hz; exact .tail _ hz
    · rw [(findH_cons_ne h).2] at hz
      rcases List.mem_cons.1 hz with rfl | hz
      · exact .head _
      · exact .tail _ (del_sub hz)
theorem del_len {i : Int} : ∀ {m : Helds}, (delH i m).length ≤ m.length
  | [] => Nat.le_refl _
  | y :: m => by
    by_cases h : y.1 = i
    · rw [(findH_cons_eq h).2]; exact Nat.le_succ _
    · rw [(findH_cons_ne h).2]; exact Nat.succ_le_succ del_len
end Go.So
