/-
  Laws of instructions: subprograms (written by our own gen_inl.py).
-/
import Derived.Test.YthcfemfljholbaaInH
import Derived.Test.YthcfemfljholbaaSzAJ
import Derived.Test.YthcfemfljholbaaInX
namespace Go.Proofs.Ythcfemfljholbaa.insl
open Go Go.Sy Go.Sz Go.In Go.Proofs.Ythcfemfljholbaa
set_option linter.unusedVariables false
set_option linter.unusedSimpArgs false
set_option linter.constructorNameAsVariable false
set_option maxRecDepth 100000

theorem w_call (d : Int) (wh : Bool) : wrongX (callTo d) wh false = 0 := by cases wh <;> kernel_rfl
theorem w_exit (wh bt : Bool) : wrongX exitI wh bt = 0 := by cases wh <;> cases bt <;> kernel_rfl
theorem w_mov (wh bt : Bool) : wrongX movI wh bt = 0 := by cases wh <;> cases bt <;> kernel_rfl
theorem sbs_rowP {n s : Nat} (hn : 1 ≤ n) (hs : 1 ≤ s) (hn2 : n ≤ 80) (hs2 : s ≤ 10) : sbs (rowP n s (endP n s)) = if 64 < n then ([], 0, 17) else (subsL (rowP n s (endP n s)) (secs (rowP n s (endP n s))), 0, 0) := by
  have hE := endP_le hn2 hs2
  have hE2 : n ≤ endP n s := Nat.le_add_right _ _
  have hlen := rowP_len n s (endP n s)
  have hops := rowP_ops n s (endP n s)
  have hfr := froms_rowP hn hs hn2 hs2
  have hg : firstBad (rowP n s (endP n s)) (secs (rowP n s (endP n s))) = none := by
    unfold firstBad
    refine scan_none fun k _ hk => ?_
    rw [hlen] at hk
    have hw : wrongI (rowP n s (endP n s)) k (secs (rowP n s (endP n s))) = 0 := by
      unfold wrongI
      rw [rowP_get (show k < endP n s by omega)]
      rcases slotP_kind n s k with ⟨g, e⟩ | ⟨g, e | e⟩
      · have hb : badTo (rowP n s (endP n s)) k (secs (rowP n s (endP n s))) = false := by
          have : (k + 1) * s ≤ (n - 1) * s := Nat.mul_le_mul_right s (by omega)
          rw [Nat.succ_mul] at this
          unfold badTo
          rw [rowP_call (by omega) g hn2 hs2, no_sec hops, hlen, decide_eq_false (by omega), decide_eq_false (by unfold endP; omega)]; rfl
        rw [hb, e]; exact w_call _ _
      · rw [e]; exact w_exit _ _
      · rw [e]; exact w_mov _ _
    unfold slotBad
    rw [hw, Bool.and_eq_false_iff]
    exact .inr rfl
  have hen : endedI (rowP n s (endP n s)) (secs (rowP n s (endP n s))) (subsL (rowP n s (endP n s)) (secs (rowP n s (endP n s)))) = none := by
    unfold endedI
    rw [scan_none fun j _ hj => ?_]
    · rfl
    · rw [subsL_len, hfr, List.length_map, List.length_range] at hj
      have hj' : j < n := by omega
      obtain ⟨l1, l2, l3⟩ := rowP_last hn hs hj'
      rw [subsL_get (by rw [hfr]; simpa using hj'), fnA_rowP hn hs hn2 hs2 (by omega), fnA_rowP hn hs hn2 hs2 (by omega)]
      unfold endBad lastI
      dsimp only
      rw [no_sec hops]
      change (!((slotA (rowP n s (endP n s)) (((fromP n s (j + 1) : Nat) : Int) - 1).toNat).1 == _) && _) = false
      rw [show (((fromP n s (j + 1) : Nat) : Int) - 1).toNat = fromP n s (j + 1) - 1 by omega, rowP_get l1, l2]; rfl
  unfold sbs
  rw [if_neg (by omega), hg]
  dsimp only
  rw [hen, hfr, List.length_map, List.length_range]
theorem mulN {i s : Int} (h : 1 ≤ i) (hs : 0 ≤ s) : (i - 1) * s = (((i.toNat - 1) * s.toNat : Nat) : Int) := by
  rw [Int.natCast_mul, show ((i.toNat - 1 : Nat) : Int) = i - 1 by omega, show ((s.toNat : Nat) : Int) = s by omega]
theorem mulM {i s : Int} (h : 1 ≤ i) (hs : 0 ≤ s) : i * s = (((i.toNat - 1 + 1) * s.toNat : Nat) : Int) := by
  rw [Int.natCast_mul, show ((i.toNat - 1 + 1 : Nat) : Int) = i by omega, show ((s.toNat : Nat) : Int) = s by omega]
theorem mulB {i s n : Int} (h : i ≤ n) (hn : n ≤ 80) (hs : s ≤ 10) : (i.toNat - 1) * s.toNat ≤ 80 * 10 := Nat.mul_le_mul (by omega) (by omega)
theorem w32 {f : Int} (h0 : -2147483648 ≤ f) (h1 : f ≤ 2147483647) : IntKind.i32.wrap f = f := by
  simp only [IntKind.wrap, IntKind.bits, IntKind.signed, Bool.true_and]
  split <;> simp_all <;> omega
noncomputable abbrev c_parts : Code := Try.f5.body.getD .skip
def p_parts1 : List Nat := [0, 1, 0, 1, 1, 1, 1]
def sh_parts1 : Shape := ⟨[(0, .c (.i .i64)), (1, .c (.i .i64)), (5, .c (.h 0)), (6, .c (.i .i64))], [.row insT]⟩
@[reducible] def A_parts1 : Type := Int × Int × Int × Slots
def e_parts1 : A_parts1 → sh_parts1.den := fun ⟨n, s, i, o⟩ => ((n, s, (), i, ()), (o, ()))
def v_parts1 : sh_parts1.den → A_parts1 := fun d => match d with
  | ((n, s, (), i, ()), (o, ())) => (n, s, i, o)
def I_parts1 : A_parts1 → Prop := fun ⟨n, s, i, o⟩ => 1 ≤ i ∧ i ≤ n ∧ 1 ≤ n ∧ n ≤ 80 ∧ 1 ≤ s ∧ s ≤ 10 ∧ o = rowP n.toNat s.toNat (i.toNat - 1)
noncomputable def G_parts1 : A_parts1 → Tree (Ex × St) := fun ⟨n, s, i, o⟩ => .ret (.exit 0, ⟨[(0, .p (.one (.v (.int .i64 n)))), (1, .p (.one (.v (.int .i64 s)))), (5, .p (.one (.h 0)))], [(0, .row insT (rowP n.toNat s.toNat (n.toNat - 1)))], 1⟩)
noncomputable def orc_parts1 : Orc := ⟨sh_parts1, [(5, insT)], [0, 1, 5], [], fun d => ckP (I_parts1 (v_parts1 d)) (G_parts1 (v_parts1 d))⟩
def p_parts2 : List Nat := [0, 1, 0, 1, 1, 1, 1, 1, 1]
def sh_parts2 : Shape := ⟨[(0, .c (.i .i64)), (1, .c (.i .i64)), (5, .c (.h 0)), (7, .c (.i .i64))], [.row insT]⟩
@[reducible] def A_parts2 : Type := Int × Int × Int × Slots
def e_parts2 : A_parts2 → sh_parts2.den := fun ⟨n, s, i, o⟩ => ((n, s, (), i, ()), (o, ()))
def v_parts2 : sh_parts2.den → A_parts2 := fun d => match d with
  | ((n, s, (), i, ()), (o, ())) => (n, s, i, o)
def I_parts2 : A_parts2 → Prop := fun ⟨n, s, i, o⟩ => 1 ≤ i ∧ i ≤ n ∧ 1 ≤ n ∧ n ≤ 80 ∧ 1 ≤ s ∧ s ≤ 10 ∧ o = rowP n.toNat s.toNat (n.toNat + (i.toNat - 1) * s.toNat)
noncomputable def G_parts2 : A_parts2 → Tree (Ex × St) := fun ⟨n, s, i, o⟩ => .ret (.exit 2, ⟨[(0, .p (.one (.v (.int .i64 n)))), (1, .p (.one (.v (.int .i64 s)))), (5, .p (.one (.h 0)))], [(0, .row insT (rowP n.toNat s.toNat (endP n.toNat s.toNat)))], 1⟩)
noncomputable def orc_parts2 : Orc := ⟨sh_parts2, [(5, insT)], [0, 1, 5], [], fun d => ckP (I_parts2 (v_parts2 d)) (G_parts2 (v_parts2 d))⟩
def p_parts3 : List Nat := [0, 1, 0, 0, 0, 1, 0, 0, 1, 0, 1, 1, 1, 1, 1, 1]
def sh_parts3 : Shape := ⟨[(0, .c (.i .i64)), (1, .c (.i .i64)), (5, .c (.h 0)), (7, .c (.i .i64)), (8, .c (.i .i64))], [.row insT]⟩
@[reducible] def A_parts3 : Type := Int × Int × Int × Int × Slots
def e_parts3 : A_parts3 → sh_parts3.den := fun ⟨n, s, i, k, o⟩ => ((n, s, (), i, k, ()), (o, ()))
def v_parts3 : sh_parts3.den → A_parts3 := fun d => match d with
  | ((n, s, (), i, k, ()), (o, ())) => (n, s, i, k, o)
def I_parts3 : A_parts3 → Prop := fun ⟨n, s, i, k, o⟩ => 1 ≤ i ∧ i < n ∧ 1 ≤ k ∧ k ≤ s ∧ 1 ≤ n ∧ n ≤ 80 ∧ 1 ≤ s ∧ s ≤ 10 ∧ o = rowP n.toNat s.toNat (n.toNat + (i.toNat - 1) * s.toNat + (k.toNat - 1))
noncomputable def G_parts3 : A_parts3 → Tree (Ex × St) := fun ⟨n, s, i, k, o⟩ => .ret (.exit 4, ⟨[(0, .p (.one (.v (.int .i64 n)))), (1, .p (.one (.v (.int .i64 s)))), (5, .p (.one (.h 0))), (7, .p (.one (.v (.int .i64 i))))], [(0, .row insT (rowP n.toNat s.toNat (n.toNat + (i.toNat - 1) * s.toNat + (s.toNat - 1))))], 1⟩)
noncomputable def orc_parts3 : Orc := ⟨sh_parts3, [(5, insT)], [0, 1, 5, 7], [], fun d => ckP (I_parts3 (v_parts3 d)) (G_parts3 (v_parts3 d))⟩
def p_parts4 : List Nat := [0, 1, 0, 1, 1, 1, 1, 1, 1, 1, 1, 1, 1]
def sh_parts4 : Shape := ⟨[(0, .c (.i .i64)), (1, .c (.i .i64)), (9, .c (.h 0)), (12, .c (.i .i64))], [.row partsT]⟩
@[reducible] def A_parts4 : Type := Int × Int × Int × Parts
def e_parts4 : A_parts4 → sh_parts4.den := fun ⟨n, s, i, p⟩ => ((n, s, (), i, ()), (p, ()))
def v_parts4 : sh_parts4.den → A_parts4 := fun d => match d with
  | ((n, s, (), i, ()), (p, ())) => (n, s, i, p)
def I_parts4 : A_parts4 → Prop := fun ⟨n, s, i, p⟩ => 1 ≤ i ∧ i ≤ n ∧ 1 ≤ n ∧ n ≤ 80 ∧ 1 ≤ s ∧ s ≤ 10 ∧ p = subsL (rowP n.toNat s.toNat (endP n.toNat s.toNat)) (secs (rowP n.toNat s.toNat (endP n.toNat s.toNat)))
noncomputable def G_parts4 : A_parts4 → Tree (Ex × St) := fun ⟨n, s, i, p⟩ => .ret (.exit 6, ⟨[], [], 0⟩)
noncomputable def orc_parts4 : Orc := ⟨sh_parts4, [(9, partsT)], [4], [], fun d => ckP (I_parts4 (v_parts4 d)) (G_parts4 (v_parts4 d))⟩
noncomputable def LT_parts : LT := oneL p_parts1 orc_parts1 (oneL p_parts2 orc_parts2 (oneL p_parts3 orc_parts3 (oneL p_parts4 orc_parts4 (noL))))
noncomputable def T_parts4 : Int × Int × Int × Parts → Tree (A_parts4 ⊕ (Ex × St)) := fun ⟨n, s, i, p⟩ => 
Tree.ite (decide (i < n)) (Tree.ite (decide ((0 : Int) ≤ i) && decide (i < (↑(List.length p) : Int))) (Tree.ite (!((List.getD p i.toNat ((0 : Int), (0 : Int), ())).fst == IntKind.i64.wrap (n + IntKind.i64.wrap (IntKind.i64.wrap (i - (1 : Int)) * s)) && ((List.getD p i.toNat ((0 : Int), (0 : Int), ())).snd.fst == IntKind.i64.wrap (n + IntKind.i64.wrap (i * s)) && true))) (Tree.ret (Sum.inr (Ex.ret, { env := [((4 : Nat), AV.p (Part.one (Cell.v (Value.bool false))))], hp := [], nx := (0 : Nat) }))) (Tree.ret (Sum.inl (n, s, IntKind.i64.wrap (i + (1 : Int)), p)))) Tree.fail) (Tree.ret (Sum.inr (Ex.exit (6 : Nat), { env := [], hp := [], nx := (0 : Nat) })))
theorem turn_parts4 : ∀ a : A_parts4, (turnT 0 orc_parts4 (evalCode Try.prog (lk L_target) Try.f5.ntmps 0 30 LT_parts (bodyAt c_parts p_parts4) false (0 :: p_parts4)) (sh_parts4.enc (e_parts4 a))).run = ((T_parts4 a).bind fun s => .ret (turnV sh_parts4 e_parts4 s)).run := by
  rintro ⟨n, s, i, p⟩
  kernel_rfl

def μ_parts4 : A_parts4 → Nat := fun ⟨n, s, i, p⟩ => (n - i).toNat
theorem step_parts4 : ∀ a : A_parts4, I_parts4 a → (∃ a', (T_parts4 a).run = some (.inl a') ∧ I_parts4 a' ∧ μ_parts4 a' < μ_parts4 a ∧ (G_parts4 a').run = (G_parts4 a).run) ∨ (∃ y, (T_parts4 a).run = some (.inr y) ∧ (G_parts4 a).run = some y ∧ ((∃ id, y.1 = .exit id) ∨ y.1 = .ret)) := by
  rintro ⟨n, s, i, p⟩ ⟨h1, h2, h3, h4, h5, h6, rfl⟩
  simp only [T_parts4]
  have hb := mulB h2 h4 h6
  have hfr := froms_rowP (n := n.toNat) (s := s.toNat) (by omega) (by omega) (by omega) (by omega)
  have hlen := subsL_len (rowP n.toNat s.toNat (endP n.toNat s.toNat)) (secs (rowP n.toNat s.toNat (endP n.toNat s.toNat)))
  rw [hfr, List.length_map, List.length_range] at hlen
  by_cases hi : i < n
  · left
    have hP : (subsL (rowP n.toNat s.toNat (endP n.toNat s.toNat)) (secs (rowP n.toNat s.toNat (endP n.toNat s.toNat)))).getD i.toNat (0, 0, ()) = _ := subsL_get (by rw [hfr, List.length_map, List.length_range]; omega)
    rw [fnA_rowP (by omega) (by omega) (by omega) (by omega) (by omega), fnA_rowP (by omega) (by omega) (by omega) (by omega) (by omega)] at hP
    have hm := mulN (i := i) (s := s) h1 (by omega)
    have hm2 := mulM (i := i) (s := s) h1 (by omega)
    have e1 : fromP n.toNat s.toNat i.toNat = n.toNat + (i.toNat - 1) * s.toNat := if_neg (by omega)
    have e2 : fromP n.toNat s.toNat (i.toNat + 1) = n.toNat + (i.toNat - 1 + 1) * s.toNat := by
      unfold fromP
      rw [if_neg (by omega), show i.toNat + 1 - 1 = i.toNat - 1 + 1 by omega]
    have hs : (i.toNat - 1 + 1) * s.toNat = (i.toNat - 1) * s.toNat + s.toNat := Nat.succ_mul _ _
    rw [goTd hi, goTa ⟨by omega, by omega⟩, wrap64 (n := i + 1) (by omega) (by omega), wrap64 (n := i - 1) (by omega) (by omega), hm, hm2, wrap64 (n := (((i.toNat - 1) * s.toNat : Nat) : Int)) (by omega) (by omega), wrap64 (n := (((i.toNat - 1 + 1) * s.toNat : Nat) : Int)) (by omega) (by omega),
      wrap64 (n := n + (((i.toNat - 1) * s.toNat : Nat) : Int)) (by omega) (by omega), wrap64 (n := n + (((i.toNat - 1 + 1) * s.toNat : Nat) : Int)) (by omega) (by omega), hP, e1, e2]
    rw [goF (by
      rw [show ((n.toNat + (i.toNat - 1) * s.toNat : Nat) : Int) = n + (((i.toNat - 1) * s.toNat : Nat) : Int) by omega, show ((n.toNat + (i.toNat - 1 + 1) * s.toNat : Nat) : Int) = n + (((i.toNat - 1 + 1) * s.toNat : Nat) : Int) by omega]
      simp)]
    exact ⟨_, rfl, ⟨by omega, by omega, h3, h4, h5, h6, rfl⟩, by simp only [μ_parts4]; omega, rfl⟩
  · right
    rw [goFd hi]
    exact ⟨_, rfl, rfl, .inl ⟨6, rfl⟩⟩
noncomputable def T_parts3 : Int × Int × Int × Int × Slots → Tree (A_parts3 ⊕ (Ex × St)) := fun ⟨n, s, i, k, o⟩ => 
Tree.ite (decide (k < s)) (Tree.ite (bytesOk (List.length o + (1 : Nat)) (12 : Nat) && (List.length o + (1 : Nat)).ble (140737488355328 : Nat)) (Tree.ret (Sum.inl (n, s, i, IntKind.i64.wrap (k + (1 : Int)), o ++ [(BitVec.ofInt (8 : Nat) (183 : Int), BitVec.ofInt (8 : Nat) (0 : Int), BitVec.ofInt (8 : Nat) (0 : Int), (0 : Int), (0 : Int), ())]))) Tree.fail) (Tree.ret (Sum.inr (Ex.exit (4 : Nat), { env := [((0 : Nat), AV.p (Part.one (Cell.v (Value.int IntKind.i64 n)))), ((1 : Nat), AV.p (Part.one (Cell.v (Value.int IntKind.i64 s)))), ((5 : Nat), AV.p (Part.one (Cell.h (0 : Nat)))), ((7 : Nat), AV.p (Part.one (Cell.v (Value.int IntKind.i64 i))))], hp := [((0 : Nat), Ob.row insT o)], nx := (1 : Nat) })))
theorem turn_parts3 : ∀ a : A_parts3, (turnT 0 orc_parts3 (evalCode Try.prog (lk L_target) Try.f5.ntmps 0 30 LT_parts (bodyAt c_parts p_parts3) false (0 :: p_parts3)) (sh_parts3.enc (e_parts3 a))).run = ((T_parts3 a).bind fun s => .ret (turnV sh_parts3 e_parts3 s)).run := by
  rintro ⟨n, s, i, k, o⟩
  kernel_rfl

def μ_parts3 : A_parts3 → Nat := fun ⟨n, s, i, k, o⟩ => (s - k).toNat
theorem step_parts3 : ∀ a : A_parts3, I_parts3 a → (∃ a', (T_parts3 a).run = some (.inl a') ∧ I_parts3 a' ∧ μ_parts3 a' < μ_parts3 a ∧ (G_parts3 a').run = (G_parts3 a).run) ∨ (∃ y, (T_parts3 a).run = some (.inr y) ∧ (G_parts3 a).run = some y ∧ ((∃ id, y.1 = .exit id) ∨ y.1 = .ret)) := by
  rintro ⟨n, s, i, k, o⟩ ⟨h1, h2, g1, g2, h3, h4, h5, h6, rfl⟩
  simp only [T_parts3]
  have hb := mulB (Int.le_of_lt h2) h4 h6
  by_cases hi : k < s
  · left
    have hl := rowP_len n.toNat s.toNat (n.toNat + (i.toNat - 1) * s.toNat + (k.toNat - 1))
    rw [goTd hi, goTb ⟨by omega, by omega⟩, wrap64 (n := k + 1) (by omega) (by omega)]
    refine ⟨_, rfl, ⟨h1, h2, by omega, by omega, h3, h4, h5, h6, ?_⟩, by simp only [μ_parts3]; omega, rfl⟩
    rw [show (k + 1).toNat - 1 = k.toNat - 1 + 1 by omega, ← Nat.add_assoc, rowP_up, slotP_mov (by omega)]
  · right
    rw [goFd hi]
    refine ⟨_, rfl, ?_, .inl ⟨4, rfl⟩⟩
    simp only [G_parts3, Tree.run]
    rw [show k = s by omega]
noncomputable def T_parts2 : Int × Int × Int × Slots → Tree (A_parts2 ⊕ (Ex × St)) := fun ⟨n, s, i, o⟩ => 
Tree.ite (decide (i < n)) (Tree.ite (decC ((1 : Int) ≤ i ∧ i < n ∧ (1 : Int) ≤ (1 : Int) ∧ (1 : Int) ≤ s ∧ (1 : Int) ≤ n ∧ n ≤ (80 : Int) ∧ (1 : Int) ≤ s ∧ s ≤ (10 : Int) ∧ o = rowP n.toNat s.toNat (n.toNat + (i.toNat - (1 : Nat)) * s.toNat + (0 : Nat)))) (Tree.ite (bytesOk (List.length (rowP n.toNat s.toNat (n.toNat + (i.toNat - (1 : Nat)) * s.toNat + (s.toNat - (1 : Nat)))) + (1 : Nat)) (12 : Nat) && (List.length (rowP n.toNat s.toNat (n.toNat + (i.toNat - (1 : Nat)) * s.toNat + (s.toNat - (1 : Nat)))) + (1 : Nat)).ble (140737488355328 : Nat)) (Tree.ret (Sum.inl (n, s, IntKind.i64.wrap (i + (1 : Int)), rowP n.toNat s.toNat (n.toNat + (i.toNat - (1 : Nat)) * s.toNat + (s.toNat - (1 : Nat))) ++ [(BitVec.ofInt (8 : Nat) (149 : Int), BitVec.ofInt (8 : Nat) (0 : Int), BitVec.ofInt (8 : Nat) (0 : Int), (0 : Int), (0 : Int), ())]))) Tree.fail) Tree.fail) (Tree.ret (Sum.inr (Ex.exit (2 : Nat), { env := [((0 : Nat), AV.p (Part.one (Cell.v (Value.int IntKind.i64 n)))), ((1 : Nat), AV.p (Part.one (Cell.v (Value.int IntKind.i64 s)))), ((5 : Nat), AV.p (Part.one (Cell.h (0 : Nat))))], hp := [((0 : Nat), Ob.row insT o)], nx := (1 : Nat) })))
theorem turn_parts2 : ∀ a : A_parts2, (turnT 0 orc_parts2 (evalCode Try.prog (lk L_target) Try.f5.ntmps 0 30 LT_parts (bodyAt c_parts p_parts2) false (0 :: p_parts2)) (sh_parts2.enc (e_parts2 a))).run = ((T_parts2 a).bind fun s => .ret (turnV sh_parts2 e_parts2 s)).run := by
  rintro ⟨n, s, i, o⟩
  kernel_rfl

def μ_parts2 : A_parts2 → Nat := fun ⟨n, s, i, o⟩ => (n - i).toNat
theorem step_parts2 : ∀ a : A_parts2, I_parts2 a → (∃ a', (T_parts2 a).run = some (.inl a') ∧ I_parts2 a' ∧ μ_parts2 a' < μ_parts2 a ∧ (G_parts2 a').run = (G_parts2 a).run) ∨ (∃ y, (T_parts2 a).run = some (.inr y) ∧ (G_parts2 a).run = some y ∧ ((∃ id, y.1 = .exit id) ∨ y.1 = .ret)) := by
  rintro ⟨n, s, i, o⟩ ⟨h1, h2, h3, h4, h5, h6, rfl⟩
  simp only [T_parts2]
  have hb := mulB h2 h4 h6
  by_cases hi : i < n
  · left
    have hl := rowP_len n.toNat s.toNat (n.toNat + (i.toNat - 1) * s.toNat + (s.toNat - 1))
    rw [goTd hi, goT (decP ⟨h1, hi, by omega, h5, h3, h4, h5, h6, rfl⟩), goTb ⟨by omega, by omega⟩, wrap64 (n := i + 1) (by omega) (by omega)]
    refine ⟨_, rfl, ⟨by omega, by omega, h3, h4, h5, h6, ?_⟩, by simp only [μ_parts2]; omega, rfl⟩
    rw [show (i + 1).toNat - 1 = i.toNat - 1 + 1 by omega, Nat.succ_mul, show n.toNat + ((i.toNat - 1) * s.toNat + s.toNat) = n.toNat + (i.toNat - 1) * s.toNat + (s.toNat - 1) + 1 by omega, rowP_up, slotP_last (by omega)]
  · right
    rw [goFd hi]
    refine ⟨_, rfl, ?_, .inl ⟨2, rfl⟩⟩
    simp only [G_parts2, Tree.run]
    rw [show i = n by omega]; rfl
noncomputable def T_parts1 : Int × Int × Int × Slots → Tree (A_parts1 ⊕ (Ex × St)) := fun ⟨n, s, i, o⟩ => 
Tree.ite (decide (i < n)) (Tree.ite (bytesOk (List.length o + (1 : Nat)) (12 : Nat) && (List.length o + (1 : Nat)).ble (140737488355328 : Nat)) (Tree.ret (Sum.inl (n, s, IntKind.i64.wrap (i + (1 : Int)), o ++ [(BitVec.ofInt (8 : Nat) (133 : Int), BitVec.ofInt (8 : Nat) (0 : Int), BitVec.ofInt (8 : Nat) (1 : Int), (0 : Int), IntKind.i32.wrap (IntKind.i64.wrap (IntKind.i64.wrap (IntKind.i64.wrap (IntKind.i64.wrap (n - (1 : Int)) - i) + (1 : Int)) + IntKind.i64.wrap (IntKind.i64.wrap (i - (1 : Int)) * s))), ())]))) Tree.fail) (Tree.ret (Sum.inr (Ex.exit (0 : Nat), { env := [((0 : Nat), AV.p (Part.one (Cell.v (Value.int IntKind.i64 n)))), ((1 : Nat), AV.p (Part.one (Cell.v (Value.int IntKind.i64 s)))), ((5 : Nat), AV.p (Part.one (Cell.h (0 : Nat))))], hp := [((0 : Nat), Ob.row insT o)], nx := (1 : Nat) })))
theorem turn_parts1 : ∀ a : A_parts1, (turnT 0 orc_parts1 (evalCode Try.prog (lk L_target) Try.f5.ntmps 0 30 LT_parts (bodyAt c_parts p_parts1) false (0 :: p_parts1)) (sh_parts1.enc (e_parts1 a))).run = ((T_parts1 a).bind fun s => .ret (turnV sh_parts1 e_parts1 s)).run := by
  rintro ⟨n, s, i, o⟩
  kernel_rfl

def μ_parts1 : A_parts1 → Nat := fun ⟨n, s, i, o⟩ => (n - i).toNat
theorem step_parts1 : ∀ a : A_parts1, I_parts1 a → (∃ a', (T_parts1 a).run = some (.inl a') ∧ I_parts1 a' ∧ μ_parts1 a' < μ_parts1 a ∧ (G_parts1 a').run = (G_parts1 a).run) ∨ (∃ y, (T_parts1 a).run = some (.inr y) ∧ (G_parts1 a).run = some y ∧ ((∃ id, y.1 = .exit id) ∨ y.1 = .ret)) := by
  rintro ⟨n, s, i, o⟩ ⟨h1, h2, h3, h4, h5, h6, rfl⟩
  simp only [T_parts1]
  have hl := rowP_len n.toNat s.toNat (i.toNat - 1)
  by_cases hi : i < n
  · left
    have hm := mulN (i := i) (s := s) h1 (by omega)
    have hb := mulB h2 h4 h6
    rw [goTd hi, goTb ⟨by omega, by omega⟩, wrap64 (n := i + 1) (by omega) (by omega), wrap64 (n := n - 1) (by omega) (by omega), wrap64 (n := n - 1 - i) (by omega) (by omega), wrap64 (n := n - 1 - i + 1) (by omega) (by omega), wrap64 (n := i - 1) (by omega) (by omega), hm, wrap64 (n := (((i.toNat - 1) * s.toNat : Nat) : Int)) (by omega) (by omega), wrap64 (by omega) (by omega), w32 (by omega) (by omega)]
    refine ⟨_, rfl, ⟨by omega, by omega, h3, h4, h5, h6, ?_⟩, by simp only [μ_parts1]; omega, rfl⟩
    rw [show (i + 1).toNat - 1 = i.toNat - 1 + 1 by omega, rowP_up, slotP_call (by omega), show n - 1 - i + 1 + (((i.toNat - 1) * s.toNat : Nat) : Int) = (n.toNat : Int) - 1 - (i.toNat - 1 : Nat) + (((i.toNat - 1) * s.toNat : Nat) : Int) by omega]
  · right
    rw [goFd hi]
    refine ⟨_, rfl, ?_, .inl ⟨0, rfl⟩⟩
    simp only [G_parts1, Tree.run]
    rw [show i = n by omega]
theorem lok_parts : LOk Try.prog (lk L_target) Try.f5.ntmps 0 30 LT_parts c_parts := lok_view (lok_view (lok_view (lok_view (noL_ok2 _ _ _ _ _ _ _) (by kernel_rfl) e_parts4 (by rintro ⟨⟨n, s, ⟨⟩, i, ⟨⟩⟩, ⟨p, ⟨⟩⟩⟩; exact ⟨(n, s, i, p), rfl⟩) T_parts4 turn_parts4 I_parts4 G_parts4 (by rintro ⟨n, s, i, p⟩; rfl) μ_parts4 step_parts4) (by kernel_rfl) e_parts3 (by rintro ⟨⟨n, s, ⟨⟩, i, k, ⟨⟩⟩, ⟨o, ⟨⟩⟩⟩; exact ⟨(n, s, i, k, o), rfl⟩) T_parts3 turn_parts3 I_parts3 G_parts3 (by rintro ⟨n, s, i, k, o⟩; rfl) μ_parts3 step_parts3) (by kernel_rfl) e_parts2 (by rintro ⟨⟨n, s, ⟨⟩, i, ⟨⟩⟩, ⟨o, ⟨⟩⟩⟩; exact ⟨(n, s, i, o), rfl⟩) T_parts2 turn_parts2 I_parts2 G_parts2 (by rintro ⟨n, s, i, o⟩; rfl) μ_parts2 step_parts2) (by kernel_rfl) e_parts1 (by rintro ⟨⟨n, s, ⟨⟩, i, ⟨⟩⟩, ⟨o, ⟨⟩⟩⟩; exact ⟨(n, s, i, o), rfl⟩) T_parts1 turn_parts1 I_parts1 G_parts1 (by rintro ⟨n, s, i, o⟩; rfl) μ_parts1 step_parts1
noncomputable def E_parts : Int × Int → Tree (AV × List Ob) := fun ⟨n, s⟩ => 
Tree.ite (!decide (n < (1 : Int))) (Tree.ite (!decide ((80 : Int) < n)) (Tree.ite (!decide (s < (1 : Int))) (Tree.ite (decide ((10 : Int) < s)) (Tree.ret (AV.p (Part.one (Cell.v (Value.bool true))), [])) (Tree.ite (decC ((1 : Int) ≤ (1 : Int) ∧ (1 : Int) ≤ n ∧ (1 : Int) ≤ n ∧ n ≤ (80 : Int) ∧ (1 : Int) ≤ s ∧ s ≤ (10 : Int) ∧ [] = rowP n.toNat s.toNat (0 : Nat))) (Tree.ite (bytesOk (List.length (rowP n.toNat s.toNat (n.toNat - (1 : Nat))) + (1 : Nat)) (12 : Nat) && (List.length (rowP n.toNat s.toNat (n.toNat - (1 : Nat))) + (1 : Nat)).ble (140737488355328 : Nat)) (Tree.ite (decC ((1 : Int) ≤ (1 : Int) ∧ (1 : Int) ≤ n ∧ (1 : Int) ≤ n ∧ n ≤ (80 : Int) ∧ (1 : Int) ≤ s ∧ s ≤ (10 : Int) ∧ rowP n.toNat s.toNat (n.toNat - (1 : Nat)) ++ [(BitVec.ofInt (8 : Nat) (149 : Int), BitVec.ofInt (8 : Nat) (0 : Int), BitVec.ofInt (8 : Nat) (0 : Int), (0 : Int), (0 : Int), ())] = rowP n.toNat s.toNat (n.toNat + (0 : Nat) * s.toNat))) (Tree.ite (decC (List.length (rowP n.toNat s.toNat (endP n.toNat s.toNat)) ≤ (140737488355328 : Nat))) (Tree.ite (decide ((64 : Int) < n)) (Tree.ite ((sbs (rowP n.toNat s.toNat (endP n.toNat s.toNat))).snd.snd == (17 : Int)) (Tree.ite ((sbs (rowP n.toNat s.toNat (endP n.toNat s.toNat))).snd.fst == (0 : Int)) (Tree.ret (AV.p (Part.one (Cell.v (Value.bool ((↑(List.length (sbs (rowP n.toNat s.toNat (endP n.toNat s.toNat))).fst) : Int) == (0 : Int))))), [])) (Tree.ret (AV.p (Part.one (Cell.v (Value.bool false))), []))) (Tree.ret (AV.p (Part.one (Cell.v (Value.bool false))), []))) (Tree.ite (!(sbs (rowP n.toNat s.toNat (endP n.toNat s.toNat))).snd.snd != (0 : Int)) (Tree.ite (!(↑(List.length (sbs (rowP n.toNat s.toNat (endP n.toNat s.toNat))).fst) : Int) != n) (Tree.ite (true && decide ((0 : Int) < (↑(List.length (sbs (rowP n.toNat s.toNat (endP n.toNat s.toNat))).fst) : Int))) (Tree.ite (!((List.getD (sbs (rowP n.toNat s.toNat (endP n.toNat s.toNat))).fst (0 : Nat) ((0 : Int), (0 : Int), ())).fst == (0 : Int) && ((List.getD (sbs (rowP n.toNat s.toNat (endP n.toNat s.toNat))).fst (0 : Nat) ((0 : Int), (0 : Int), ())).snd.fst == n && true))) (Tree.ret (AV.p (Part.one (Cell.v (Value.bool false))), [])) (Tree.ite (decC ((1 : Int) ≤ (1 : Int) ∧ (1 : Int) ≤ n ∧ (1 : Int) ≤ n ∧ n ≤ (80 : Int) ∧ (1 : Int) ≤ s ∧ s ≤ (10 : Int) ∧ (sbs (rowP n.toNat s.toNat (endP n.toNat s.toNat))).fst = subsL (rowP n.toNat s.toNat (endP n.toNat s.toNat)) (secs (rowP n.toNat s.toNat (endP n.toNat s.toNat))))) (Tree.ret (AV.p (Part.one (Cell.v (Value.bool true))), [])) Tree.fail)) Tree.fail) (Tree.ret (AV.p (Part.one (Cell.v (Value.bool false))), []))) (Tree.ret (AV.p (Part.one (Cell.v (Value.bool false))), [])))) Tree.fail) Tree.fail) Tree.fail) Tree.fail)) (Tree.ret (AV.p (Part.one (Cell.v (Value.bool true))), []))) (Tree.ret (AV.p (Part.one (Cell.v (Value.bool true))), []))) (Tree.ret (AV.p (Part.one (Cell.v (Value.bool true))), []))
theorem ev_parts (n : Int) (s : Int) : (evalFnL Try.prog (lk L_target) 30 LT_parts Try.f5 c_parts [] [.p (.one (.v (.int .i64 n))), .p (.one (.v (.int .i64 s)))] []).run = (E_parts (n, s)).run := by kernel_rfl

theorem true_parts (n : Int) (s : Int) (hok : okS [.one (.i .i64), .one (.i .i64)] (n, s, ())) : (E_parts (n, s)).run = some (AV.b true, []) := by
  dsimp only [E_parts]
  by_cases g1 : n < 1
  · exact goFn g1
  by_cases g2 : 80 < n
  · exact (goTn g1).trans (goFn g2)
  by_cases g3 : s < 1
  · exact (goTn g1).trans ((goTn g2).trans (goFn g3))
  by_cases g4 : 10 < s
  · exact (goTn g1).trans ((goTn g2).trans ((goTn g3).trans (goTd g4)))
  have hl := rowP_len n.toNat s.toNat (n.toNat - 1)
  have hE := endP_le (n := n.toNat) (s := s.toNat) (by omega) (by omega)
  have hl2 := rowP_len n.toNat s.toNat (endP n.toNat s.toNat)
  have hs := sbs_rowP (n := n.toNat) (s := s.toNat) (by omega) (by omega) (by omega) (by omega)
  have hfr := froms_rowP (n := n.toNat) (s := s.toNat) (by omega) (by omega) (by omega) (by omega)
  have hx : rowP n.toNat s.toNat (n.toNat - 1) ++ [exitI] = rowP n.toNat s.toNat (n.toNat + 0 * s.toNat) := by
    rw [Nat.zero_mul, Nat.add_zero, show rowP n.toNat s.toNat n.toNat = rowP n.toNat s.toNat (n.toNat - 1 + 1) by rw [show n.toNat - 1 + 1 = n.toNat by omega], rowP_up, slotP_exit (by omega)]
  refine (goTn g1).trans ((goTn g2).trans ((goTn g3).trans ((goFd g4).trans ((goT (decP ⟨by omega, by omega, by omega, by omega, by omega, by omega, rfl⟩)).trans ?_))))
  refine (goTb ⟨by omega, by omega⟩).trans ((goT (decP ⟨by omega, by omega, by omega, by omega, by omega, by omega, hx⟩)).trans ((goT (decP (by omega))).trans ?_))
  rw [hs]
  by_cases g5 : 64 < n
  · rw [goTd g5, if_pos (by omega)]
    rfl
  · rw [goFd g5, if_neg (by omega)]
    have hlen := subsL_len (rowP n.toNat s.toNat (endP n.toNat s.toNat)) (secs (rowP n.toNat s.toNat (endP n.toNat s.toNat)))
    rw [hfr, List.length_map, List.length_range] at hlen
    have hP : (subsL (rowP n.toNat s.toNat (endP n.toNat s.toNat)) (secs (rowP n.toNat s.toNat (endP n.toNat s.toNat)))).getD 0 (0, 0, ()) = _ := subsL_get (by rw [hfr, List.length_map, List.length_range]; omega)
    rw [fnA_rowP (by omega) (by omega) (by omega) (by omega) (by omega), fnA_rowP (by omega) (by omega) (by omega) (by omega) (by omega)] at hP
    dsimp only
    have e2 : fromP n.toNat s.toNat (0 + 1) = n.toNat := by
      unfold fromP
      rw [if_neg (by omega), Nat.zero_add, Nat.sub_self, Nat.zero_mul, Nat.add_zero]
    refine (goT rfl).trans ((goTN (by rw [hlen]; simp [bne]; omega)).trans ((goT (by rw [Bool.true_and, decide_eq_true_eq]; omega)).trans ?_))
    rw [hP, e2]
    refine (goF (by rw [show ((n.toNat : Nat) : Int) = n by omega]; simp [fromP])).trans ((goT (decP ⟨by omega, by omega, by omega, by omega, by omega, by omega, rfl⟩)).trans rfl)
theorem lifted_parts (os : Os) (started : os.Started) : ∀ {H : Type} (enc : TypeId × Value → H), ReturnsInHanded {} Try.checked os 5 .any (Rows.insnPartsSpec.pre6 enc Try.prog Try.f5 [] false) (Rows.insnPartsSpec.post enc Try.prog Try.f5 false true false false) := by
  intro H enc
  refine law_lifted (by kernel_rfl) (by kernel_rfl) started (by kernel_rfl) Try.func5 rfl ?_ rfl (by kernel_rfl) ?_
    (ChangeSpec.witness6 (enc := enc) (C := Try.checked) false ⟨#[], #[.int .i64 0, .int .i64 0], []⟩ 8 (by kernel_rfl) (by kernel_rfl) (by kernel_rfl) (by kernel_rfl)) ?_
  · exact of_decide_eq_true (by kernel_rfl)
  · intro ds hds
    match ds, hds with
    | [d0, d1], _ => rfl
  · intro W base args ds before hval htrod
    refine law_data (K := Kn) tok_target Try.checked.mixed Try.func5 (by rfl) 30 4 (rc := []) (sh := [.one (.i .i64), .one (.i .i64)]) (by kernel_rfl) ?_ W trivial base args ds before hval htrod
    rintro ⟨n, s, ⟨⟩⟩ hok
    exact ⟨LT_parts, lok_parts, (ev_parts n s).trans (true_parts n s hok)⟩
theorem over_parts : Rows.insnPartsRow.holds Try.pinned (OpenSpec.ofChange Rows.insnPartsSpec) :=
  OpenClaim.holds_of_wide 5 Try.f5 rfl rfl rfl rfl rfl rfl rfl ⟨rfl, rfl, rfl, rfl, rfl⟩ rfl rfl rfl rfl rfl (by kernel_rfl) Try.func5 (by kernel_rfl)
    (of_decide_eq_true (by kernel_rfl)) (by unfold Func.isWrapper; first | (rw [if_pos (by decide +kernel)]; kernel_rfl) | (rw [if_neg (by decide +kernel)]; exact ⟨rfl, rfl⟩))
    (fun os started H enc _ => lifted_parts os started enc)
theorem holds_parts : Rows.InsnPartsSaid := over_parts
end Go.Proofs.Ythcfemfljholbaa.insl
