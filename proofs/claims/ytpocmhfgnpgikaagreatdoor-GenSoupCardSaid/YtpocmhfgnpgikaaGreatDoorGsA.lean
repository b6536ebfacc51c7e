/-
  The contracts of slots that are made of bytes (written by our own gen_gsa.py).
-/
import Derived.Test.YtpocmhfgnpgikaaGreatDoorInF
import Derived.Test.YtpocmhfgnpgikaaGreatDoorInV
namespace Go.Proofs.YtpocmhfgnpgikaaGreatDoor
open Go Go.Sy Go.Sz Go.In Go.Proofs.YtpocmhfgnpgikaaGreatDoor
set_option linter.unusedVariables false
set_option linter.unusedSimpArgs false
set_option linter.constructorNameAsVariable false
set_option maxRecDepth 100000
def hdI (s : Bys) : Int := match s with
  | [] => 0
  | x :: _ => (x.1.toNat : Int)
def exitL (n : Int) : Slots := [(BitVec.ofInt 8 183, BitVec.ofInt 8 0, BitVec.ofInt 8 0, 0, IntKind.i32.wrap n, ()), (BitVec.ofInt 8 149, BitVec.ofInt 8 0, BitVec.ofInt 8 0, 0, 0, ())]
def ea_nxt : Bys → denAs [.c (.p 0 0)] := fun s => ((), ())
def eo_nxt : Bys → denObs [.lit [.d bytesT]] := fun s => ((s, ()), ())
noncomputable def E_nxt : Bys → Tree (AV × List Ob) := fun s => 
Tree.ite ((↑(List.length s) : Int) == (0 : Int)) (Tree.ret (AV.p (Part.one (Cell.v (Value.int IntKind.i64 (0 : Int)))), [Ob.lit [Cell.d bytesT s]])) (Tree.ite (true && decide ((0 : Int) < (↑(List.length s) : Int))) (Tree.ite (true && decide ((1 : Int) ≤ (↑(List.length s) : Int))) (Tree.ret (AV.p (Part.one (Cell.v (Value.int IntKind.i64 (↑(BitVec.toNat (List.getD s (0 : Nat) (BitVec.ofNat 8 0, ())).fst) : Int)))), [Ob.lit [Cell.d bytesT (List.take (List.length s - (1 : Nat)) (List.drop (1 : Nat) s))]])) Tree.fail) Tree.fail)
noncomputable def F_nxt : denAs [.c (.p 0 0)] → denObs [.lit [.d bytesT]] → Tree (AV × List Ob) := fun x y => match x, y with
  | ((), ()), ((s, ()), ()) => .ret (AV.c (.v (.int .i64 (hdI s))), [Ob.lit [Cell.d bytesT s.tail]])
theorem ev_nxt : ∀ a, (evalFnL Tryz.prog (lk L_rchk) 20 noL Tryz.f26 (Tryz.f26.body.getD .skip) [] (encAs [.c (.p 0 0)] (ea_nxt a)) (encOs [.lit [.d bytesT]] (eo_nxt a))).run = (E_nxt a).run := by
  rintro s
  kernel_rfl
theorem fe_nxt : ∀ a y, (F_nxt (ea_nxt a) (eo_nxt a)).run = some y → (E_nxt a).run = some y := by
  rintro s y h
  rw [← h]
  cases s with
  | nil => rfl
  | cons x l =>
    dsimp only [E_nxt]
    refine (goF (by rw [beq_eq_false_iff_ne]; simp; omega)).trans ?_
    refine (goT (by simp)).trans ?_
    refine (goT (by simp; omega)).trans ?_
    have e : List.take ((x :: l).length - 1) (List.drop 1 (x :: l)) = l := by simp
    exact congrArg (fun z : Bys => (some (AV.p (Part.one (Cell.v (Value.int IntKind.i64 (x.1.toNat : Int)))), [Ob.lit [Cell.d bytesT z]]) : Option (AV × List Ob))) e
theorem ok_nxt : SummOk Kn Tryz.prog 26 (sumT [.any] false [.c (.p 0 0)] [.lit [.d bytesT]] F_nxt) := sumT_view tok_rchk Tryz.checked.mixed Tryz.func26 (by kernel_rfl) (by rfl) 20 [] ea_nxt eo_nxt
  (by rintro ⟨⟨⟩, ⟨⟩⟩ ⟨⟨s, ⟨⟩⟩, ⟨⟩⟩; exact ⟨s, rfl, rfl⟩) noL 1 (by rintro ⟨⟨s, ⟨⟩⟩, ⟨⟩⟩; rfl) (noL_ok _ _ _ _ _ _) E_nxt ev_nxt fe_nxt
noncomputable def L_nxt : List (Nat × Summ) := (26, (sumT [.any] false [.c (.p 0 0)] [.lit [.d bytesT]] F_nxt)) :: L_rchk
theorem tok_nxt : TOk Kn Tryz.prog (lk L_nxt) := lk_cons ok_nxt tok_rchk
theorem ok_handed : SummOk Kn Tryz.prog 10 (sumE [.any] false Tryz.prog (lk L_nxt) 20 Tryz.f10 (Tryz.f10.body.getD .skip) []) := sumE_ok tok_nxt Tryz.checked.mixed Tryz.func10 (by kernel_rfl) (by rfl) 20 []
noncomputable def L_handed : List (Nat × Summ) := (10, (sumE [.any] false Tryz.prog (lk L_nxt) 20 Tryz.f10 (Tryz.f10.body.getD .skip) [])) :: L_nxt
theorem tok_handed : TOk Kn Tryz.prog (lk L_handed) := lk_cons ok_handed tok_nxt
def ea_exit : Int → denAs [.c (.i .i64)] := fun n => (n, ())
def eo_exit : Int → denObs [] := fun n => ()
noncomputable def E_exit : Int → Tree (AV × List Ob) := fun n => 
Tree.ret (AV.p (Part.one (Cell.h (0 : Nat))), [Ob.row insT [(BitVec.ofInt (8 : Nat) (183 : Int), BitVec.ofInt (8 : Nat) (0 : Int), BitVec.ofInt (8 : Nat) (0 : Int), (0 : Int), IntKind.i32.wrap n, ()), (BitVec.ofInt (8 : Nat) (149 : Int), BitVec.ofInt (8 : Nat) (0 : Int), BitVec.ofInt (8 : Nat) (0 : Int), (0 : Int), (0 : Int), ())]])
noncomputable def F_exit : denAs [.c (.i .i64)] → denObs [] → Tree (AV × List Ob) := fun x y => match x, y with
  | (n, ()), () => .ret (AV.c (.h 0), [Ob.row insT (exitL n)])
theorem ev_exit : ∀ a, (evalFnL Tryz.prog (lk L_handed) 20 noL Tryz.f12 (Tryz.f12.body.getD .skip) [] (encAs [.c (.i .i64)] (ea_exit a)) (encOs [] (eo_exit a))).run = (E_exit a).run := by
  rintro n
  kernel_rfl
theorem fe_exit : ∀ a y, (F_exit (ea_exit a) (eo_exit a)).run = some y → (E_exit a).run = some y := by
  rintro n y h
  exact h
theorem ok_exit : SummOk Kn Tryz.prog 12 (sumT [.any] false [.c (.i .i64)] [] F_exit) := sumT_view tok_handed Tryz.checked.mixed Tryz.func12 (by kernel_rfl) (by rfl) 20 [] ea_exit eo_exit
  (by rintro ⟨n, ⟨⟩⟩ ⟨⟩; exact ⟨n, rfl, rfl⟩) noL 0 (by rintro ⟨⟩; rfl) (noL_ok _ _ _ _ _ _) E_exit ev_exit fe_exit
noncomputable def L_exit : List (Nat × Summ) := (12, (sumT [.any] false [.c (.i .i64)] [] F_exit)) :: L_handed
theorem tok_exit : TOk Kn Tryz.prog (lk L_exit) := lk_cons ok_exit tok_handed
abbrev soupA (s0 : Bys) (i a : Int) : Int := IntKind.i64.wrap (a + IntKind.i64.wrap ((↑(List.length s0) : Int) * i))
abbrev soupK (s0 : Bys) (n i a : Int) : Int := (IntKind.i64.wrap (soupA s0 i a + IntKind.i64.wrap (n * i))).tmod 7
def soupX (s0 : Bys) (first n i a b c : Int) : Ins :=
  bif soupK s0 n i a == 1 then (BitVec.ofInt 8 15, BitVec.ofInt 8 ((IntKind.i64.wrap (b + n)).tmod 10), BitVec.ofInt 8 (c.tmod 11), 0, 0, ())
  else bif soupK s0 n i a == 2 then (BitVec.ofInt 8 123, BitVec.ofInt 8 10, BitVec.ofInt 8 (b.tmod 10), IntKind.i16.wrap (IntKind.i64.wrap (-8 * IntKind.i64.wrap (1 + c.tmod 64))), 0, ())
  else bif soupK s0 n i a == 3 then (BitVec.ofInt 8 121, BitVec.ofInt 8 (b.tmod 10), BitVec.ofInt 8 (c.tmod 11), IntKind.i16.wrap (IntKind.i64.wrap (b - 128)), 0, ())
  else bif soupK s0 n i a == 4 then (BitVec.ofInt 8 102, BitVec.ofInt 8 (b.tmod 10), BitVec.ofInt 8 0, IntKind.i16.wrap (c.tmod (IntKind.i64.wrap (n - i))), IntKind.i32.wrap c, ())
  else bif soupK s0 n i a == 5 then (BitVec.ofInt 8 133, BitVec.ofInt 8 0, BitVec.ofInt 8 0, 0, IntKind.i32.wrap (IntKind.i64.wrap (1 + (IntKind.i64.wrap (b + n)).tmod 28)), ())
  else (BitVec.ofInt 8 183, BitVec.ofInt 8 ((IntKind.i64.wrap (IntKind.i64.wrap (soupA s0 i a + n) + i)).tmod 10), BitVec.ofInt 8 0, 0, IntKind.i32.wrap (IntKind.i64.wrap (IntKind.i64.wrap (b - 128) + first)), ())
def soupGo (s0 : Bys) (first n : Int) : Nat → Int → Bys → Slots → Slots
  | 0, _, _, l => l
  | k + 1, i, s, l => soupGo s0 first n k (i + 1) s.tail.tail.tail (l ++ [soupX s0 first n i (hdI s) (hdI s.tail) (hdI s.tail.tail)])
noncomputable abbrev c_soup : Code := Tryz.f5.body.getD .skip
def p_soup : List Nat := [0, 1, 0, 1, 1, 1, 1, 1, 1]
def sh_soup : Shape := ⟨[(0, .c (.d bytesT)), (3, .c (.clo 26 [(0, 0)])), (4, .c (.i .i64)), (5, .c (.i .i64)), (6, .c (.h 1)), (29, .c (.i .i64)), (30, .c (.i .i64))], [.lit [.d bytesT], .row insT]⟩
@[reducible] def A_soup : Type := Bys × Int × Int × Int × Int × Bys × Slots
def e_soup : A_soup → sh_soup.den := fun ⟨s0, first, n, n2, i, s, l⟩ => ((s0, (), first, n, (), n2, i, ()), ((s, ()), l, ()))
def v_soup : sh_soup.den → A_soup := fun d => match d with
  | ((s0, (), first, n, (), n2, i, ()), ((s, ()), l, ())) => (s0, first, n, n2, i, s, l)
def I_soup : A_soup → Prop := fun ⟨s0, first, n, n2, i, s, l⟩ => n2 = n ∧ 0 ≤ i ∧ i ≤ n ∧ 1 ≤ n ∧ n ≤ 60 ∧ (l.length : Int) = i ∧ s0.length ≤ 256 ∧ 0 ≤ first ∧ first ≤ 255
noncomputable def G_soup : A_soup → Tree (Ex × St) := fun ⟨s0, first, n, n2, i, s, l⟩ => .ret (.exit 0, ⟨[(5, AV.c (.v (.int .i64 n))), (6, .p (.one (.h 0)))], [(0, .row insT (soupGo s0 first n (n - i).toNat i s l))], 1⟩)
noncomputable def orc_soup : Orc := ⟨sh_soup, [(6, insT)], [5, 6], [], fun d => ckP (I_soup (v_soup d)) (G_soup (v_soup d))⟩
noncomputable def LT_soup : LT := oneL p_soup orc_soup (noL)
noncomputable def T_soup : Bys × Int × Int × Int × Int × Bys × Slots → Tree (A_soup ⊕ (Ex × St)) := fun ⟨s0, first, n, n2, i, s, l⟩ => 
Tree.ite (decide (i < n2)) (Tree.ite ((IntKind.i64.wrap (IntKind.i64.wrap (hdI s + IntKind.i64.wrap ((↑(List.length s0) : Int) * i)) + IntKind.i64.wrap (n * i))).tmod (7 : Int) == (1 : Int)) (Tree.ite (bytesOk (List.length l + (1 : Nat)) (12 : Nat) && (List.length l + (1 : Nat)).ble (140737488355328 : Nat)) (Tree.ret (Sum.inl (s0, first, n, n2, IntKind.i64.wrap (i + (1 : Int)), (List.tail s).tail.tail, l ++ [(BitVec.ofInt (8 : Nat) (15 : Int), BitVec.ofInt (8 : Nat) ((IntKind.i64.wrap (hdI (List.tail s) + n)).tmod (10 : Int)), BitVec.ofInt (8 : Nat) ((hdI (List.tail s).tail).tmod (11 : Int)), (0 : Int), (0 : Int), ())]))) Tree.fail) (Tree.ite ((IntKind.i64.wrap (IntKind.i64.wrap (hdI s + IntKind.i64.wrap ((↑(List.length s0) : Int) * i)) + IntKind.i64.wrap (n * i))).tmod (7 : Int) == (2 : Int)) (Tree.ite (bytesOk (List.length l + (1 : Nat)) (12 : Nat) && (List.length l + (1 : Nat)).ble (140737488355328 : Nat)) (Tree.ret (Sum.inl (s0, first, n, n2, IntKind.i64.wrap (i + (1 : Int)), (List.tail s).tail.tail, l ++ [(BitVec.ofInt (8 : Nat) (123 : Int), BitVec.ofInt (8 : Nat) (10 : Int), BitVec.ofInt (8 : Nat) ((hdI (List.tail s)).tmod (10 : Int)), IntKind.i16.wrap (IntKind.i64.wrap ((-8 : Int) * IntKind.i64.wrap ((1 : Int) + (hdI (List.tail s).tail).tmod (64 : Int)))), (0 : Int), ())]))) Tree.fail) (Tree.ite ((IntKind.i64.wrap (IntKind.i64.wrap (hdI s + IntKind.i64.wrap ((↑(List.length s0) : Int) * i)) + IntKind.i64.wrap (n * i))).tmod (7 : Int) == (3 : Int)) (Tree.ite (bytesOk (List.length l + (1 : Nat)) (12 : Nat) && (List.length l + (1 : Nat)).ble (140737488355328 : Nat)) (Tree.ret (Sum.inl (s0, first, n, n2, IntKind.i64.wrap (i + (1 : Int)), (List.tail s).tail.tail, l ++ [(BitVec.ofInt (8 : Nat) (121 : Int), BitVec.ofInt (8 : Nat) ((hdI (List.tail s)).tmod (10 : Int)), BitVec.ofInt (8 : Nat) ((hdI (List.tail s).tail).tmod (11 : Int)), IntKind.i16.wrap (IntKind.i64.wrap (hdI (List.tail s) - (128 : Int))), (0 : Int), ())]))) Tree.fail) (Tree.ite ((IntKind.i64.wrap (IntKind.i64.wrap (hdI s + IntKind.i64.wrap ((↑(List.length s0) : Int) * i)) + IntKind.i64.wrap (n * i))).tmod (7 : Int) == (4 : Int)) (Tree.ite (decide (IntKind.i64.wrap (n - i) = (0 : Int))) Tree.fail (Tree.ite (bytesOk (List.length l + (1 : Nat)) (12 : Nat) && (List.length l + (1 : Nat)).ble (140737488355328 : Nat)) (Tree.ret (Sum.inl (s0, first, n, n2, IntKind.i64.wrap (i + (1 : Int)), (List.tail s).tail.tail, l ++ [(BitVec.ofInt (8 : Nat) (102 : Int), BitVec.ofInt (8 : Nat) ((hdI (List.tail s)).tmod (10 : Int)), BitVec.ofInt (8 : Nat) (0 : Int), IntKind.i16.wrap ((hdI (List.tail s).tail).tmod (IntKind.i64.wrap (n - i))), IntKind.i32.wrap (hdI (List.tail s).tail), ())]))) Tree.fail)) (Tree.ite ((IntKind.i64.wrap (IntKind.i64.wrap (hdI s + IntKind.i64.wrap ((↑(List.length s0) : Int) * i)) + IntKind.i64.wrap (n * i))).tmod (7 : Int) == (5 : Int)) (Tree.ite (bytesOk (List.length l + (1 : Nat)) (12 : Nat) && (List.length l + (1 : Nat)).ble (140737488355328 : Nat)) (Tree.ret (Sum.inl (s0, first, n, n2, IntKind.i64.wrap (i + (1 : Int)), (List.tail s).tail.tail, l ++ [(BitVec.ofInt (8 : Nat) (133 : Int), BitVec.ofInt (8 : Nat) (0 : Int), BitVec.ofInt (8 : Nat) (0 : Int), (0 : Int), IntKind.i32.wrap (IntKind.i64.wrap ((1 : Int) + (IntKind.i64.wrap (hdI (List.tail s) + n)).tmod (28 : Int))), ())]))) Tree.fail) (Tree.ite (bytesOk (List.length l + (1 : Nat)) (12 : Nat) && (List.length l + (1 : Nat)).ble (140737488355328 : Nat)) (Tree.ret (Sum.inl (s0, first, n, n2, IntKind.i64.wrap (i + (1 : Int)), (List.tail s).tail.tail, l ++ [(BitVec.ofInt (8 : Nat) (183 : Int), BitVec.ofInt (8 : Nat) ((IntKind.i64.wrap (IntKind.i64.wrap (IntKind.i64.wrap (hdI s + IntKind.i64.wrap ((↑(List.length s0) : Int) * i)) + n) + i)).tmod (10 : Int)), BitVec.ofInt (8 : Nat) (0 : Int), (0 : Int), IntKind.i32.wrap (IntKind.i64.wrap (IntKind.i64.wrap (hdI (List.tail s) - (128 : Int)) + first)), ())]))) Tree.fail)))))) (Tree.ret (Sum.inr (Ex.exit (0 : Nat), { env := [((5 : Nat), AV.p (Part.one (Cell.v (Value.int IntKind.i64 n)))), ((6 : Nat), AV.p (Part.one (Cell.h (0 : Nat))))], hp := [((0 : Nat), Ob.row insT l)], nx := (1 : Nat) })))
theorem turn_soup : ∀ a : A_soup, (turnT 0 orc_soup (evalCode Tryz.prog (lk L_exit) Tryz.f5.ntmps 0 20 LT_soup (bodyAt c_soup p_soup) false (0 :: p_soup)) (sh_soup.enc (e_soup a))).run = ((T_soup a).bind fun s => .ret (turnV sh_soup e_soup s)).run := by
  rintro ⟨s0, first, n, n2, i, s, l⟩
  kernel_rfl
def μ_soup : A_soup → Nat := fun ⟨s0, first, n, n2, i, s, l⟩ => (n - i).toNat
theorem step_soup : ∀ a : A_soup, I_soup a → (∃ a', (T_soup a).run = some (.inl a') ∧ I_soup a' ∧ μ_soup a' < μ_soup a ∧ (G_soup a').run = (G_soup a).run) ∨ (∃ y, (T_soup a).run = some (.inr y) ∧ (G_soup a).run = some y ∧ ((∃ id, y.1 = .exit id) ∨ y.1 = .ret)) := by
  rintro ⟨s0, first, n, n2, i, s, l⟩ ⟨h0, h1, h2, h3, h4, h5, h6, h7, h8⟩
  obtain rfl : n2 = n := h0
  simp only [T_soup]
  by_cases hi : i < n2
  · left
    rw [goTd hi, wrap64 (n := i + 1) (by omega) (by omega)]
    have hb : (bytesOk (List.length l + (1 : Nat)) (12 : Nat) && (List.length l + (1 : Nat)).ble (140737488355328 : Nat)) = true := by
      unfold bytesOk
      rw [Bool.and_eq_true]
      exact ⟨Nat.ble_eq_true_of_le (by omega), Nat.ble_eq_true_of_le (by omega)⟩
    have fin : ∀ x : Ins, soupX s0 first n2 i (hdI s) (hdI s.tail) (hdI s.tail.tail) = x → ∃ a' : A_soup, (Tree.ite (bytesOk (List.length l + (1 : Nat)) (12 : Nat) && (List.length l + (1 : Nat)).ble (140737488355328 : Nat)) (Tree.ret (Sum.inl (s0, first, n2, n2, i + 1, (List.tail s).tail.tail, l ++ [x]))) Tree.fail : Tree (A_soup ⊕ (Ex × St))).run = some (.inl a') ∧ I_soup a' ∧ μ_soup a' < μ_soup (s0, first, n2, n2, i, s, l) ∧ (G_soup a').run = (G_soup (s0, first, n2, n2, i, s, l)).run := fun x hx => by
      rw [goT hb]
      refine ⟨_, rfl, ⟨rfl, by omega, by omega, h3, h4, by rw [List.length_append]; simp; omega, h6, h7, h8⟩, by simp only [μ_soup]; omega, ?_⟩
      simp only [G_soup, Tree.run]
      have e : (n2 - i).toNat = (n2 - (i + 1)).toNat + 1 := by omega
      rw [e]
      simp only [soupGo]
      rw [hx]
    unfold soupX at fin
    by_cases q1 : soupK s0 n2 i (hdI s) = 1
    · rw [goT (beq_iff_eq.2 q1)]
      exact fin _ (by rw [beq_iff_eq.2 q1]; rfl)
    rw [goF (beq_eq_false_iff_ne.2 q1)]
    rw [beq_eq_false_iff_ne.2 q1] at fin
    by_cases q2 : soupK s0 n2 i (hdI s) = 2
    · rw [goT (beq_iff_eq.2 q2)]
      exact fin _ (by rw [beq_iff_eq.2 q2]; rfl)
    rw [goF (beq_eq_false_iff_ne.2 q2)]
    rw [beq_eq_false_iff_ne.2 q2] at fin
    by_cases q3 : soupK s0 n2 i (hdI s) = 3
    · rw [goT (beq_iff_eq.2 q3)]
      exact fin _ (by rw [beq_iff_eq.2 q3]; rfl)
    rw [goF (beq_eq_false_iff_ne.2 q3)]
    rw [beq_eq_false_iff_ne.2 q3] at fin
    by_cases q4 : soupK s0 n2 i (hdI s) = 4
    · rw [goT (beq_iff_eq.2 q4), goFd (show ¬ (IntKind.i64.wrap (n2 - i) = 0) by rw [wrap64 (by omega) (by omega)]; omega)]
      exact fin _ (by rw [beq_iff_eq.2 q4]; rfl)
    rw [goF (beq_eq_false_iff_ne.2 q4)]
    rw [beq_eq_false_iff_ne.2 q4] at fin
    by_cases q5 : soupK s0 n2 i (hdI s) = 5
    · rw [goT (beq_iff_eq.2 q5)]
      exact fin _ (by rw [beq_iff_eq.2 q5]; rfl)
    rw [goF (beq_eq_false_iff_ne.2 q5)]
    rw [beq_eq_false_iff_ne.2 q5] at fin
    exact fin _ rfl
  · right
    rw [goFd hi]
    refine ⟨_, rfl, ?_, .inl ⟨0, rfl⟩⟩
    have e : (n2 - i).toNat = 0 := by omega
    simp only [G_soup, Tree.run]
    rw [e]
    rfl
theorem lok_soup : LOk Tryz.prog (lk L_exit) Tryz.f5.ntmps 0 20 LT_soup c_soup := lok_view (noL_ok2 _ _ _ _ _ _ _) (by kernel_rfl) e_soup (by rintro ⟨⟨s0, ⟨⟩, first, n, ⟨⟩, n2, i, ⟨⟩⟩, ⟨⟨s, ⟨⟩⟩, l, ⟨⟩⟩⟩; exact ⟨(s0, first, n, n2, i, s, l), rfl⟩) T_soup turn_soup I_soup G_soup (by rintro ⟨s0, first, n, n2, i, s, l⟩; rfl) μ_soup step_soup
def soupT (s : Bys) : Bys := s.take 256
abbrev soupN (t : Bys) : Int := IntKind.i64.wrap ((1 : Int) + (IntKind.i64.wrap (hdI t + hdI (List.tail t))).tmod (60 : Int))
def soupL (t : Bys) : Slots := soupGo t (hdI t) (soupN t) (soupN t - (0 : Int)).toNat (0 : Int) (List.tail t).tail [] ++ [(BitVec.ofInt (8 : Nat) (149 : Int), BitVec.ofInt (8 : Nat) (0 : Int), BitVec.ofInt (8 : Nat) (0 : Int), (0 : Int), (0 : Int), ())]
noncomputable def soupV (s : Bys) : Slots := bif (chk (soupL (soupT s))).2 != 0 then exitL (soupN (soupT s)) else soupL (soupT s)
theorem hdI_in (s : Bys) : 0 ≤ hdI s ∧ hdI s ≤ 255 := by
  cases s with
  | nil => exact ⟨by decide, by decide⟩
  | cons x l =>
    have : x.1.toNat < 256 := x.1.isLt
    simp only [hdI]
    omega
theorem soupN_in (t : Bys) : 1 ≤ soupN t ∧ soupN t ≤ 60 := by
  have h1 := hdI_in t
  have h2 := hdI_in t.tail
  unfold soupN
  rw [wrap64 (n := hdI t + hdI t.tail) (by omega) (by omega)]
  have h3 : (hdI t + hdI t.tail).tmod 60 < 60 := Int.tmod_lt_of_pos _ (by decide)
  have h4 : 0 ≤ (hdI t + hdI t.tail).tmod 60 := Int.tmod_nonneg _ (by omega)
  rw [wrap64 (by omega) (by omega)]
  omega
theorem soupGo_len (s0 : Bys) (first n : Int) : ∀ (k : Nat) (i : Int) (s : Bys) (l : Slots), (soupGo s0 first n k i s l).length = l.length + k
  | 0, _, _, _ => rfl
  | k + 1, i, s, l => by
    simp only [soupGo]
    rw [soupGo_len s0 first n k, List.length_append]
    simp; omega
theorem soupL_len (t : Bys) : (soupL t).length ≤ 61 := by
  have := soupN_in t
  unfold soupL
  rw [List.length_append, soupGo_len]
  simp; omega
theorem soupT_eq (s : Bys) : ∃ B : Int, (bif decide ((256 : Int) < (↑(List.length s) : Int)) then (256 : Int) else (↑(List.length s) : Int)) = B ∧ 0 ≤ B ∧ B ≤ s.length ∧ List.take (B.toNat - 0) (List.drop 0 s) = soupT s := by
  by_cases h : (256 : Int) < (s.length : Int)
  · exact ⟨256, by rw [decide_eq_true h]; rfl, by omega, by omega, rfl⟩
  · refine ⟨s.length, by rw [decide_eq_false h]; rfl, by omega, by omega, ?_⟩
    unfold soupT
    rw [List.drop_zero, List.take_of_length_le (by omega), List.take_of_length_le (by omega)]
def ea_soup : Bys → denAs [.c (.d bytesT)] := fun s => (s, ())
def eo_soup : Bys → denObs [] := fun s => ()
noncomputable def E_soup : Bys → Tree (AV × List Ob) := fun s => 
Tree.ite (decide ((0 : Int) ≤ bif decide ((256 : Int) < (↑(List.length s) : Int)) then (256 : Int) else (↑(List.length s) : Int)) && decide ((bif decide ((256 : Int) < (↑(List.length s) : Int)) then (256 : Int) else (↑(List.length s) : Int)) ≤ (↑(List.length s) : Int))) (Tree.ite (decC (IntKind.i64.wrap ((1 : Int) + (IntKind.i64.wrap (hdI (List.take ((bif decide ((256 : Int) < (↑(List.length s) : Int)) then (256 : Int) else (↑(List.length s) : Int)).toNat - (0 : Nat)) (List.drop (0 : Nat) s)) + hdI (List.take ((bif decide ((256 : Int) < (↑(List.length s) : Int)) then (256 : Int) else (↑(List.length s) : Int)).toNat - (0 : Nat)) (List.drop (0 : Nat) s)).tail)).tmod (60 : Int)) = IntKind.i64.wrap ((1 : Int) + (IntKind.i64.wrap (hdI (List.take ((bif decide ((256 : Int) < (↑(List.length s) : Int)) then (256 : Int) else (↑(List.length s) : Int)).toNat - (0 : Nat)) (List.drop (0 : Nat) s)) + hdI (List.take ((bif decide ((256 : Int) < (↑(List.length s) : Int)) then (256 : Int) else (↑(List.length s) : Int)).toNat - (0 : Nat)) (List.drop (0 : Nat) s)).tail)).tmod (60 : Int)) ∧ (0 : Int) ≤ (0 : Int) ∧ (0 : Int) ≤ IntKind.i64.wrap ((1 : Int) + (IntKind.i64.wrap (hdI (List.take ((bif decide ((256 : Int) < (↑(List.length s) : Int)) then (256 : Int) else (↑(List.length s) : Int)).toNat - (0 : Nat)) (List.drop (0 : Nat) s)) + hdI (List.take ((bif decide ((256 : Int) < (↑(List.length s) : Int)) then (256 : Int) else (↑(List.length s) : Int)).toNat - (0 : Nat)) (List.drop (0 : Nat) s)).tail)).tmod (60 : Int)) ∧ (1 : Int) ≤ IntKind.i64.wrap ((1 : Int) + (IntKind.i64.wrap (hdI (List.take ((bif decide ((256 : Int) < (↑(List.length s) : Int)) then (256 : Int) else (↑(List.length s) : Int)).toNat - (0 : Nat)) (List.drop (0 : Nat) s)) + hdI (List.take ((bif decide ((256 : Int) < (↑(List.length s) : Int)) then (256 : Int) else (↑(List.length s) : Int)).toNat - (0 : Nat)) (List.drop (0 : Nat) s)).tail)).tmod (60 : Int)) ∧ IntKind.i64.wrap ((1 : Int) + (IntKind.i64.wrap (hdI (List.take ((bif decide ((256 : Int) < (↑(List.length s) : Int)) then (256 : Int) else (↑(List.length s) : Int)).toNat - (0 : Nat)) (List.drop (0 : Nat) s)) + hdI (List.take ((bif decide ((256 : Int) < (↑(List.length s) : Int)) then (256 : Int) else (↑(List.length s) : Int)).toNat - (0 : Nat)) (List.drop (0 : Nat) s)).tail)).tmod (60 : Int)) ≤ (60 : Int) ∧ (0 : Int) = (0 : Int) ∧ (List.take ((bif decide ((256 : Int) < (↑(List.length s) : Int)) then (256 : Int) else (↑(List.length s) : Int)).toNat - (0 : Nat)) (List.drop (0 : Nat) s)).length ≤ (256 : Nat) ∧ (0 : Int) ≤ hdI (List.take ((bif decide ((256 : Int) < (↑(List.length s) : Int)) then (256 : Int) else (↑(List.length s) : Int)).toNat - (0 : Nat)) (List.drop (0 : Nat) s)) ∧ hdI (List.take ((bif decide ((256 : Int) < (↑(List.length s) : Int)) then (256 : Int) else (↑(List.length s) : Int)).toNat - (0 : Nat)) (List.drop (0 : Nat) s)) ≤ (255 : Int))) (Tree.ite (bytesOk (List.length (soupGo (List.take ((bif decide ((256 : Int) < (↑(List.length s) : Int)) then (256 : Int) else (↑(List.length s) : Int)).toNat - (0 : Nat)) (List.drop (0 : Nat) s)) (hdI (List.take ((bif decide ((256 : Int) < (↑(List.length s) : Int)) then (256 : Int) else (↑(List.length s) : Int)).toNat - (0 : Nat)) (List.drop (0 : Nat) s))) (IntKind.i64.wrap ((1 : Int) + (IntKind.i64.wrap (hdI (List.take ((bif decide ((256 : Int) < (↑(List.length s) : Int)) then (256 : Int) else (↑(List.length s) : Int)).toNat - (0 : Nat)) (List.drop (0 : Nat) s)) + hdI (List.take ((bif decide ((256 : Int) < (↑(List.length s) : Int)) then (256 : Int) else (↑(List.length s) : Int)).toNat - (0 : Nat)) (List.drop (0 : Nat) s)).tail)).tmod (60 : Int))) (IntKind.i64.wrap ((1 : Int) + (IntKind.i64.wrap (hdI (List.take ((bif decide ((256 : Int) < (↑(List.length s) : Int)) then (256 : Int) else (↑(List.length s) : Int)).toNat - (0 : Nat)) (List.drop (0 : Nat) s)) + hdI (List.take ((bif decide ((256 : Int) < (↑(List.length s) : Int)) then (256 : Int) else (↑(List.length s) : Int)).toNat - (0 : Nat)) (List.drop (0 : Nat) s)).tail)).tmod (60 : Int)) - (0 : Int)).toNat (0 : Int) (List.take ((bif decide ((256 : Int) < (↑(List.length s) : Int)) then (256 : Int) else (↑(List.length s) : Int)).toNat - (0 : Nat)) (List.drop (0 : Nat) s)).tail.tail []) + (1 : Nat)) (12 : Nat) && (List.length (soupGo (List.take ((bif decide ((256 : Int) < (↑(List.length s) : Int)) then (256 : Int) else (↑(List.length s) : Int)).toNat - (0 : Nat)) (List.drop (0 : Nat) s)) (hdI (List.take ((bif decide ((256 : Int) < (↑(List.length s) : Int)) then (256 : Int) else (↑(List.length s) : Int)).toNat - (0 : Nat)) (List.drop (0 : Nat) s))) (IntKind.i64.wrap ((1 : Int) + (IntKind.i64.wrap (hdI (List.take ((bif decide ((256 : Int) < (↑(List.length s) : Int)) then (256 : Int) else (↑(List.length s) : Int)).toNat - (0 : Nat)) (List.drop (0 : Nat) s)) + hdI (List.take ((bif decide ((256 : Int) < (↑(List.length s) : Int)) then (256 : Int) else (↑(List.length s) : Int)).toNat - (0 : Nat)) (List.drop (0 : Nat) s)).tail)).tmod (60 : Int))) (IntKind.i64.wrap ((1 : Int) + (IntKind.i64.wrap (hdI (List.take ((bif decide ((256 : Int) < (↑(List.length s) : Int)) then (256 : Int) else (↑(List.length s) : Int)).toNat - (0 : Nat)) (List.drop (0 : Nat) s)) + hdI (List.take ((bif decide ((256 : Int) < (↑(List.length s) : Int)) then (256 : Int) else (↑(List.length s) : Int)).toNat - (0 : Nat)) (List.drop (0 : Nat) s)).tail)).tmod (60 : Int)) - (0 : Int)).toNat (0 : Int) (List.take ((bif decide ((256 : Int) < (↑(List.length s) : Int)) then (256 : Int) else (↑(List.length s) : Int)).toNat - (0 : Nat)) (List.drop (0 : Nat) s)).tail.tail []) + (1 : Nat)).ble (140737488355328 : Nat)) (Tree.ite (decC ((soupGo (List.take ((bif decide ((256 : Int) < (↑(List.length s) : Int)) then (256 : Int) else (↑(List.length s) : Int)).toNat - (0 : Nat)) (List.drop (0 : Nat) s)) (hdI (List.take ((bif decide ((256 : Int) < (↑(List.length s) : Int)) then (256 : Int) else (↑(List.length s) : Int)).toNat - (0 : Nat)) (List.drop (0 : Nat) s))) (IntKind.i64.wrap ((1 : Int) + (IntKind.i64.wrap (hdI (List.take ((bif decide ((256 : Int) < (↑(List.length s) : Int)) then (256 : Int) else (↑(List.length s) : Int)).toNat - (0 : Nat)) (List.drop (0 : Nat) s)) + hdI (List.take ((bif decide ((256 : Int) < (↑(List.length s) : Int)) then (256 : Int) else (↑(List.length s) : Int)).toNat - (0 : Nat)) (List.drop (0 : Nat) s)).tail)).tmod (60 : Int))) (IntKind.i64.wrap ((1 : Int) + (IntKind.i64.wrap (hdI (List.take ((bif decide ((256 : Int) < (↑(List.length s) : Int)) then (256 : Int) else (↑(List.length s) : Int)).toNat - (0 : Nat)) (List.drop (0 : Nat) s)) + hdI (List.take ((bif decide ((256 : Int) < (↑(List.length s) : Int)) then (256 : Int) else (↑(List.length s) : Int)).toNat - (0 : Nat)) (List.drop (0 : Nat) s)).tail)).tmod (60 : Int)) - (0 : Int)).toNat (0 : Int) (List.take ((bif decide ((256 : Int) < (↑(List.length s) : Int)) then (256 : Int) else (↑(List.length s) : Int)).toNat - (0 : Nat)) (List.drop (0 : Nat) s)).tail.tail [] ++ [(BitVec.ofInt (8 : Nat) (149 : Int), BitVec.ofInt (8 : Nat) (0 : Int), BitVec.ofInt (8 : Nat) (0 : Int), (0 : Int), (0 : Int), ())]).length ≤ (140737488355328 : Nat))) (Tree.ite ((chk (soupGo (List.take ((bif decide ((256 : Int) < (↑(List.length s) : Int)) then (256 : Int) else (↑(List.length s) : Int)).toNat - (0 : Nat)) (List.drop (0 : Nat) s)) (hdI (List.take ((bif decide ((256 : Int) < (↑(List.length s) : Int)) then (256 : Int) else (↑(List.length s) : Int)).toNat - (0 : Nat)) (List.drop (0 : Nat) s))) (IntKind.i64.wrap ((1 : Int) + (IntKind.i64.wrap (hdI (List.take ((bif decide ((256 : Int) < (↑(List.length s) : Int)) then (256 : Int) else (↑(List.length s) : Int)).toNat - (0 : Nat)) (List.drop (0 : Nat) s)) + hdI (List.take ((bif decide ((256 : Int) < (↑(List.length s) : Int)) then (256 : Int) else (↑(List.length s) : Int)).toNat - (0 : Nat)) (List.drop (0 : Nat) s)).tail)).tmod (60 : Int))) (IntKind.i64.wrap ((1 : Int) + (IntKind.i64.wrap (hdI (List.take ((bif decide ((256 : Int) < (↑(List.length s) : Int)) then (256 : Int) else (↑(List.length s) : Int)).toNat - (0 : Nat)) (List.drop (0 : Nat) s)) + hdI (List.take ((bif decide ((256 : Int) < (↑(List.length s) : Int)) then (256 : Int) else (↑(List.length s) : Int)).toNat - (0 : Nat)) (List.drop (0 : Nat) s)).tail)).tmod (60 : Int)) - (0 : Int)).toNat (0 : Int) (List.take ((bif decide ((256 : Int) < (↑(List.length s) : Int)) then (256 : Int) else (↑(List.length s) : Int)).toNat - (0 : Nat)) (List.drop (0 : Nat) s)).tail.tail [] ++ [(BitVec.ofInt (8 : Nat) (149 : Int), BitVec.ofInt (8 : Nat) (0 : Int), BitVec.ofInt (8 : Nat) (0 : Int), (0 : Int), (0 : Int), ())])).snd != (0 : Int)) (Tree.ret (AV.p (Part.one (Cell.h (0 : Nat))), [Ob.row insT (exitL (IntKind.i64.wrap ((1 : Int) + (IntKind.i64.wrap (hdI (List.take ((bif decide ((256 : Int) < (↑(List.length s) : Int)) then (256 : Int) else (↑(List.length s) : Int)).toNat - (0 : Nat)) (List.drop (0 : Nat) s)) + hdI (List.take ((bif decide ((256 : Int) < (↑(List.length s) : Int)) then (256 : Int) else (↑(List.length s) : Int)).toNat - (0 : Nat)) (List.drop (0 : Nat) s)).tail)).tmod (60 : Int))))])) (Tree.ret (AV.p (Part.one (Cell.h (0 : Nat))), [Ob.row insT (soupGo (List.take ((bif decide ((256 : Int) < (↑(List.length s) : Int)) then (256 : Int) else (↑(List.length s) : Int)).toNat - (0 : Nat)) (List.drop (0 : Nat) s)) (hdI (List.take ((bif decide ((256 : Int) < (↑(List.length s) : Int)) then (256 : Int) else (↑(List.length s) : Int)).toNat - (0 : Nat)) (List.drop (0 : Nat) s))) (IntKind.i64.wrap ((1 : Int) + (IntKind.i64.wrap (hdI (List.take ((bif decide ((256 : Int) < (↑(List.length s) : Int)) then (256 : Int) else (↑(List.length s) : Int)).toNat - (0 : Nat)) (List.drop (0 : Nat) s)) + hdI (List.take ((bif decide ((256 : Int) < (↑(List.length s) : Int)) then (256 : Int) else (↑(List.length s) : Int)).toNat - (0 : Nat)) (List.drop (0 : Nat) s)).tail)).tmod (60 : Int))) (IntKind.i64.wrap ((1 : Int) + (IntKind.i64.wrap (hdI (List.take ((bif decide ((256 : Int) < (↑(List.length s) : Int)) then (256 : Int) else (↑(List.length s) : Int)).toNat - (0 : Nat)) (List.drop (0 : Nat) s)) + hdI (List.take ((bif decide ((256 : Int) < (↑(List.length s) : Int)) then (256 : Int) else (↑(List.length s) : Int)).toNat - (0 : Nat)) (List.drop (0 : Nat) s)).tail)).tmod (60 : Int)) - (0 : Int)).toNat (0 : Int) (List.take ((bif decide ((256 : Int) < (↑(List.length s) : Int)) then (256 : Int) else (↑(List.length s) : Int)).toNat - (0 : Nat)) (List.drop (0 : Nat) s)).tail.tail [] ++ [(BitVec.ofInt (8 : Nat) (149 : Int), BitVec.ofInt (8 : Nat) (0 : Int), BitVec.ofInt (8 : Nat) (0 : Int), (0 : Int), (0 : Int), ())])]))) Tree.fail) Tree.fail) Tree.fail) Tree.fail
noncomputable def F_soup : denAs [.c (.d bytesT)] → denObs [] → Tree (AV × List Ob) := fun x y => match x, y with
  | (s, ()), () => .ret (AV.c (.h 0), [Ob.row insT (soupV s)])
theorem ev_soup : ∀ a, (evalFnL Tryz.prog (lk L_exit) 20 LT_soup Tryz.f5 c_soup [(0, insT)] (encAs [.c (.d bytesT)] (ea_soup a)) (encOs [] (eo_soup a))).run = (E_soup a).run := by
  rintro s
  kernel_rfl
theorem fe_soup : ∀ a y, (F_soup (ea_soup a) (eo_soup a)).run = some y → (E_soup a).run = some y := by
  rintro s y h
  rw [← h]
  dsimp only [E_soup]
  obtain ⟨B, e1, b1, b2, e2⟩ := soupT_eq s
  rw [e1, e2]
  refine (goT (by rw [Bool.and_eq_true, decide_eq_true_eq, decide_eq_true_eq]; exact ⟨b1, b2⟩)).trans ?_
  have f1 := hdI_in (soupT s)
  have n1 := soupN_in (soupT s)
  have hl := soupL_len (soupT s)
  have hg := soupGo_len (soupT s) (hdI (soupT s)) (soupN (soupT s)) (soupN (soupT s) - (0 : Int)).toNat (0 : Int) (List.tail (soupT s)).tail []
  have ht : (soupT s).length ≤ 256 := by unfold soupT; rw [List.length_take]; omega
  have hk : ((soupN (soupT s) - (0 : Int)).toNat) ≤ 60 := by omega
  simp only [List.length_nil, Nat.zero_add] at hg
  refine (goT (decP ⟨rfl, Int.le_refl 0, Int.le_trans (by decide) n1.1, n1.1, n1.2, rfl, ht, f1.1, f1.2⟩)).trans ?_
  refine (goT (by
    unfold bytesOk
    rw [Bool.and_eq_true, hg]
    exact ⟨Nat.ble_eq_true_of_le (by omega), Nat.ble_eq_true_of_le (by omega)⟩)).trans ?_
  refine (goT (decP (Nat.le_trans hl (by decide)))).trans ?_
  cases hc : ((chk (soupL (soupT s))).2 != 0) with
  | true =>
    refine (goT hc).trans ?_
    have e : soupV s = exitL (soupN (soupT s)) := by unfold soupV; rw [hc]; rfl
    exact congrArg (fun z : Slots => (some (AV.p (Part.one (Cell.h 0)), [Ob.row insT z]) : Option (AV × List Ob))) e.symm
  | false =>
    refine (goF hc).trans ?_
    have e : soupV s = soupL (soupT s) := by unfold soupV; rw [hc]; rfl
    exact congrArg (fun z : Slots => (some (AV.p (Part.one (Cell.h 0)), [Ob.row insT z]) : Option (AV × List Ob))) e.symm
theorem ok_soup : SummOk Kn Tryz.prog 5 (sumT [.dp bytesT] false [.c (.d bytesT)] [] F_soup) := sumT_view tok_exit Tryz.checked.mixed Tryz.func5 (by kernel_rfl) (by rfl) 20 [(0, insT)] ea_soup eo_soup
  (by rintro ⟨s, ⟨⟩⟩ ⟨⟩; exact ⟨s, rfl, rfl⟩) LT_soup 0 (by rintro ⟨⟩; rfl) lok_soup E_soup ev_soup fe_soup
noncomputable def L_soup : List (Nat × Summ) := (5, (sumT [.dp bytesT] false [.c (.d bytesT)] [] F_soup)) :: L_exit
theorem tok_soup : TOk Kn Tryz.prog (lk L_soup) := lk_cons ok_soup tok_exit
noncomputable abbrev c_insns : Code := Tryz.f7.body.getD .skip
def p_insns : List Nat := [0, 1, 0, 1, 1]
def sh_insns : Shape := ⟨[(0, .c (.d insT)), (1, .c (.d insT)), (5, .c (.i .i64))], []⟩
@[reducible] def A_insns : Type := Slots × Slots × Int
def e_insns : A_insns → sh_insns.den := fun ⟨a, b, i⟩ => ((a, b, i, ()), ())
def v_insns : sh_insns.den → A_insns := fun d => match d with
  | ((a, b, i, ()), ()) => (a, b, i)
def I_insns : A_insns → Prop := fun ⟨a, b, i⟩ => 0 ≤ i ∧ a.length = b.length ∧ a.length ≤ 1000000 ∧ ∀ j : Nat, (j : Int) < i → a.getD j noIns = b.getD j noIns
noncomputable def G_insns : A_insns → Tree (Ex × St) := fun ⟨a, b, i⟩ => .ite (sameI a b) (.ret (.exit 0, ⟨[], [], 0⟩)) (.ret (.ret, ⟨[(4, AV.c (.v (.bool false)))], [], 0⟩))
noncomputable def orc_insns : Orc := ⟨sh_insns, [], [4], [], fun d => ckP (I_insns (v_insns d)) (G_insns (v_insns d))⟩
noncomputable def LT_insns : LT := oneL p_insns orc_insns (noL)
noncomputable def T_insns : Slots × Slots × Int → Tree (A_insns ⊕ (Ex × St)) := fun ⟨a, b, i⟩ => 
Tree.ite (decide (i < (↑(List.length a) : Int))) (Tree.ite (decide ((0 : Int) ≤ i) && decide (i < (↑(List.length a) : Int))) (Tree.ite (decide ((0 : Int) ≤ i) && decide (i < (↑(List.length b) : Int))) (Tree.ite (!((List.getD a i.toNat noIns).fst == (List.getD b i.toNat noIns).fst && ((List.getD a i.toNat noIns).snd.fst == (List.getD b i.toNat noIns).snd.fst && ((List.getD a i.toNat noIns).snd.snd.fst == (List.getD b i.toNat noIns).snd.snd.fst && ((List.getD a i.toNat noIns).snd.snd.snd.fst == (List.getD b i.toNat noIns).snd.snd.snd.fst && ((List.getD a i.toNat noIns).snd.snd.snd.snd.fst == (List.getD b i.toNat noIns).snd.snd.snd.snd.fst && true)))))) (Tree.ret (Sum.inr (Ex.ret, { env := [((4 : Nat), AV.p (Part.one (Cell.v (Value.bool false))))], hp := [], nx := (0 : Nat) }))) (Tree.ret (Sum.inl (a, b, IntKind.i64.wrap (i + (1 : Int)))))) Tree.fail) Tree.fail) (Tree.ret (Sum.inr (Ex.exit (0 : Nat), { env := [], hp := [], nx := (0 : Nat) })))
theorem turn_insns : ∀ a : A_insns, (turnT 0 orc_insns (evalCode Tryz.prog (lk L_soup) Tryz.f7.ntmps 0 20 LT_insns (bodyAt c_insns p_insns) false (0 :: p_insns)) (sh_insns.enc (e_insns a))).run = ((T_insns a).bind fun s => .ret (turnV sh_insns e_insns s)).run := by
  rintro ⟨a, b, i⟩
  kernel_rfl
def μ_insns : A_insns → Nat := fun ⟨a, b, i⟩ => a.length - i.toNat
theorem step_insns : ∀ a : A_insns, I_insns a → (∃ a', (T_insns a).run = some (.inl a') ∧ I_insns a' ∧ μ_insns a' < μ_insns a ∧ (G_insns a').run = (G_insns a).run) ∨ (∃ y, (T_insns a).run = some (.inr y) ∧ (G_insns a).run = some y ∧ ((∃ id, y.1 = .exit id) ∨ y.1 = .ret)) := by
  rintro ⟨a, b, i⟩ ⟨h1, h2, h3, h4⟩
  simp only [T_insns]
  by_cases hi : i < a.length
  · rw [goTd hi, goTa ⟨h1, hi⟩, goTa ⟨h1, by omega⟩, wrap64 (n := i + 1) (by omega) (by omega), beqI]
    by_cases he : a.getD i.toNat noIns = b.getD i.toNat noIns
    · left
      rw [goFN (decide_eq_true he)]
      exact ⟨_, rfl, ⟨by omega, h2, h3, all_succ h1 h4 he⟩, by simp only [μ_insns]; omega, rfl⟩
    · right
      rw [goTN (decide_eq_false he)]
      refine ⟨_, rfl, ?_, .inr rfl⟩
      simp only [G_insns]
      rw [goF (decI_no _ he)]; rfl
  · right
    rw [goFd hi]
    refine ⟨_, rfl, ?_, .inl ⟨0, rfl⟩⟩
    simp only [G_insns]
    rw [goT (decI h2 fun j hj => h4 j (by omega))]; rfl
theorem lok_insns : LOk Tryz.prog (lk L_soup) Tryz.f7.ntmps 0 20 LT_insns c_insns := lok_view (noL_ok2 _ _ _ _ _ _ _) (by kernel_rfl) e_insns (by rintro ⟨⟨a, b, i, ⟨⟩⟩, ⟨⟩⟩; exact ⟨(a, b, i), rfl⟩) T_insns turn_insns I_insns G_insns (by rintro ⟨a, b, i⟩; rfl) μ_insns step_insns
def ea_insns : Slots × Slots → denAs [.c (.d insT), .c (.d insT)] := fun ⟨a, b⟩ => (a, b, ())
def eo_insns : Slots × Slots → denObs [] := fun ⟨a, b⟩ => ()
noncomputable def E_insns : Slots × Slots → Tree (AV × List Ob) := fun ⟨a, b⟩ => 
Tree.ite ((↑(List.length a) : Int) != (↑(List.length b) : Int)) (Tree.ret (AV.p (Part.one (Cell.v (Value.bool false))), [])) (Tree.ite (decC ((0 : Int) ≤ (0 : Int) ∧ List.length a = List.length b ∧ List.length a ≤ (1000000 : Nat) ∧ ∀ (j : Nat), (↑j : Int) < (0 : Int) → List.getD a j noIns = List.getD b j noIns)) (Tree.ite (sameI a b) (Tree.ret (AV.p (Part.one (Cell.v (Value.bool true))), [])) (Tree.ret (AV.p (Part.one (Cell.v (Value.bool false))), []))) Tree.fail)
noncomputable def F_insns : denAs [.c (.d insT), .c (.d insT)] → denObs [] → Tree (AV × List Ob) := fun x y => match x, y with
  | (a, b, ()), () => ckP (a.length ≤ 1000000 ∧ b.length ≤ 1000000) (.ret (AV.b (sameI a b), []))
theorem ev_insns : ∀ a, (evalFnL Tryz.prog (lk L_soup) 20 LT_insns Tryz.f7 c_insns [] (encAs [.c (.d insT), .c (.d insT)] (ea_insns a)) (encOs [] (eo_insns a))).run = (E_insns a).run := by
  rintro ⟨a, b⟩
  kernel_rfl
theorem fe_insns : ∀ a y, (F_insns (ea_insns a) (eo_insns a)).run = some y → (E_insns a).run = some y := by
  rintro ⟨a, b⟩ y h
  obtain ⟨⟨h1, h2⟩, h⟩ := ckP_run h
  rw [← h]
  dsimp only [E_insns]
  change _ = some (AV.b (sameI a b), [])
  by_cases hl : a.length = b.length
  · refine (goFne (by omega)).trans ((goT (decP ⟨Int.le_refl 0, hl, h1, fun j hj => by omega⟩)).trans ?_)
    cases sameI a b <;> rfl
  · refine (goTne (by omega)).trans ?_
    rw [show sameI a b = false from decide_eq_false fun e => hl (by rw [e])]; rfl
theorem ok_insns : SummOk Kn Tryz.prog 7 (sumT [.dp insT, .dp insT] false [.c (.d insT), .c (.d insT)] [] F_insns) := sumT_view tok_soup Tryz.checked.mixed Tryz.func7 (by kernel_rfl) (by rfl) 20 [] ea_insns eo_insns
  (by rintro ⟨a, b, ⟨⟩⟩ ⟨⟩; exact ⟨(a, b), rfl, rfl⟩) LT_insns 0 (by rintro ⟨⟩; rfl) lok_insns E_insns ev_insns fe_insns
noncomputable def L_insns : List (Nat × Summ) := (7, (sumT [.dp insT, .dp insT] false [.c (.d insT), .c (.d insT)] [] F_insns)) :: L_soup
theorem tok_insns : TOk Kn Tryz.prog (lk L_insns) := lk_cons ok_insns tok_soup
end Go.Proofs.YtpocmhfgnpgikaaGreatDoor
