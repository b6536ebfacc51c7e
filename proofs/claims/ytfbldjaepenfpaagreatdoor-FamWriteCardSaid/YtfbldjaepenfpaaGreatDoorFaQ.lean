/-
  The contracts of the parser's loops over lines (written by our own gen_faq.py).
-/
import Derived.Test.YtfbldjaepenfpaaGreatDoorFaP
import Derived.Test.YtfbldjaepenfpaaGreatDoorVyO
namespace Go.Proofs.YtfbldjaepenfpaaGreatDoor.Fp
open Go Go.Sy Go.Sz Go.Fa Go.Vy Go.Proofs.YtfbldjaepenfpaaGreatDoor
set_option linter.unusedVariables false
set_option linter.unusedSimpArgs false
set_option linter.constructorNameAsVariable false
set_option maxRecDepth 100000
set_option linter.unusedSectionVars false
abbrev LK := LinesK Kn Tryz.prog 119
variable [Inhabited LK]
noncomputable def onF (s : ByteArray) : Bool := (default : LK).fnd s
noncomputable def onG (s : ByteArray) : Slots := (default : LK).get s
noncomputable def S_one : Summ := oneS onF onG
theorem ok_one : SummOk Kn Tryz.prog 119 S_one := (default : LK).ok
noncomputable def L_one : List (Nat × Summ) := (119, S_one) :: L_reg
theorem tok_one : TOk Kn Tryz.prog (lk L_one) := lk_cons ok_one tok_reg
def trOk (s : ByteArray) : Prop := s.size ≤ 65536 ∧ noSemi s 0 ∧ tmF s ∧ ((tmB s).size = 0 ∨ blankB (byteAt (tmB s) ((tmB s).size - 1)) = false)
noncomputable def lnV (s : ByteArray) : Option Slots := bif decC (trOk s) then (bif eqBA (tmB s) ⟨#[]⟩ then some [] else bif onF (tmB s) && decide ((onG (tmB s)).length ≤ 2) then some (onG (tmB s)) else none) else none
noncomputable abbrev c_parse : Code := Tryz.f72.body.getD .skip
def p_parse : List Nat := [0, 1, 0, 1, 1, 1, 1]
def sh_parse : Shape := ⟨[(0, .c .s), (5, .c (.h 0)), (6, .c (.i .i64)), (7, .c (.i .i64)), (8, .c (.i .i64))], [.row insT]⟩
@[reducible] def A_parse : Type := ByteArray × Slots × Int × Int × Int
def e_parse : A_parse → sh_parse.den := fun ⟨s, l, b, n, i⟩ => ((s, (), b, n, i, ()), (l, ()))
def v_parse : sh_parse.den → A_parse := fun d => match d with
  | ((s, (), b, n, i, ()), (l, ())) => (s, l, b, n, i)
def I_parse : A_parse → Prop := fun ⟨s, l, b, n, i⟩ => 0 ≤ b ∧ b ≤ i ∧ i ≤ s.size + 1 ∧ s.size ≤ 65536 ∧ 0 ≤ n ∧ n ≤ i + 1 ∧ (l.length : Int) ≤ 2 * i ∧ (pv lnV (s.size + 1 - i.toNat) s b.toNat i.toNat).isSome = true
noncomputable def G_parse : A_parse → Tree (Ex × St) := fun ⟨s, l, b, n, i⟩ => .ret (.exit 0, ⟨[(5, .p (.one (.h 0)))], [(0, .row insT (l ++ (pv lnV (s.size + 1 - i.toNat) s b.toNat i.toNat).getD []))], 1⟩)
noncomputable def orc_parse : Orc := ⟨sh_parse, [(5, insT)], [5], [], fun d => ckP (I_parse (v_parse d)) (G_parse (v_parse d))⟩
noncomputable def LT_parse : LT := oneL p_parse orc_parse (noL)
noncomputable def T_parse : ByteArray × Slots × Int × Int × Int → Tree (A_parse ⊕ (Ex × St)) := fun ⟨s, l, b, n, i⟩ => 
Tree.ite (decide (i ≤ (↑s.size : Int))) (Tree.ite (decide (i < (↑s.size : Int))) (Tree.ite (decide ((0 : Int) ≤ i) && decide (i < (↑s.size : Int))) (Tree.ite (byteAt s i.toNat != BitVec.ofInt (8 : Nat) (10 : Int)) (Tree.ret (Sum.inl (s, l, b, n, IntKind.i64.wrap (i + (1 : Int))))) (Tree.ite (decide ((0 : Int) ≤ i) && decide (i ≤ (↑s.size : Int))) (Tree.ite (decide ((0 : Int) ≤ b) && decide (b ≤ (↑i.toNat : Int))) (Tree.ite (decC ((s.extract b.toNat i.toNat).size ≤ (65536 : Nat) ∧ noSemi (s.extract b.toNat i.toNat) (0 : Nat) ∧ tmF (s.extract b.toNat i.toNat) ∧ ((tmB (s.extract b.toNat i.toNat)).size = (0 : Nat) ∨ blankB (byteAt (tmB (s.extract b.toNat i.toNat)) ((tmB (s.extract b.toNat i.toNat)).size - (1 : Nat))) = false))) (Tree.ite (!eqBA (tmB (s.extract b.toNat i.toNat)) { data := #[] }) (Tree.ite (onF (tmB (s.extract b.toNat i.toNat))) (Tree.ite (bytesOk (List.length l + List.length (onG (tmB (s.extract b.toNat i.toNat)))) (12 : Nat) && (List.length l + List.length (onG (tmB (s.extract b.toNat i.toNat)))).ble (140737488355328 : Nat)) (Tree.ret (Sum.inl (s, l ++ onG (tmB (s.extract b.toNat i.toNat)), IntKind.i64.wrap (i + (1 : Int)), IntKind.i64.wrap (n + (1 : Int)), IntKind.i64.wrap (i + (1 : Int))))) Tree.fail) Tree.fail) (Tree.ret (Sum.inl (s, l, IntKind.i64.wrap (i + (1 : Int)), IntKind.i64.wrap (n + (1 : Int)), IntKind.i64.wrap (i + (1 : Int)))))) Tree.fail) Tree.fail) Tree.fail)) Tree.fail) (Tree.ite (decide ((0 : Int) ≤ i) && decide (i ≤ (↑s.size : Int))) (Tree.ite (decide ((0 : Int) ≤ b) && decide (b ≤ (↑i.toNat : Int))) (Tree.ite (decC ((s.extract b.toNat i.toNat).size ≤ (65536 : Nat) ∧ noSemi (s.extract b.toNat i.toNat) (0 : Nat) ∧ tmF (s.extract b.toNat i.toNat) ∧ ((tmB (s.extract b.toNat i.toNat)).size = (0 : Nat) ∨ blankB (byteAt (tmB (s.extract b.toNat i.toNat)) ((tmB (s.extract b.toNat i.toNat)).size - (1 : Nat))) = false))) (Tree.ite (!eqBA (tmB (s.extract b.toNat i.toNat)) { data := #[] }) (Tree.ite (onF (tmB (s.extract b.toNat i.toNat))) (Tree.ite (bytesOk (List.length l + List.length (onG (tmB (s.extract b.toNat i.toNat)))) (12 : Nat) && (List.length l + List.length (onG (tmB (s.extract b.toNat i.toNat)))).ble (140737488355328 : Nat)) (Tree.ret (Sum.inl (s, l ++ onG (tmB (s.extract b.toNat i.toNat)), IntKind.i64.wrap (i + (1 : Int)), IntKind.i64.wrap (n + (1 : Int)), IntKind.i64.wrap (i + (1 : Int))))) Tree.fail) Tree.fail) (Tree.ret (Sum.inl (s, l, IntKind.i64.wrap (i + (1 : Int)), IntKind.i64.wrap (n + (1 : Int)), IntKind.i64.wrap (i + (1 : Int)))))) Tree.fail) Tree.fail) Tree.fail)) (Tree.ret (Sum.inr (Ex.exit (0 : Nat), { env := [((5 : Nat), AV.p (Part.one (Cell.h (0 : Nat))))], hp := [((0 : Nat), Ob.row insT l)], nx := (1 : Nat) })))
theorem turn_parse : ∀ a : A_parse, (turnT 0 orc_parse (evalCode Tryz.prog (lk L_one) Tryz.f72.ntmps 0 30 LT_parse (bodyAt c_parse p_parse) false (0 :: p_parse)) (sh_parse.enc (e_parse a))).run = ((T_parse a).bind fun s => .ret (turnV sh_parse e_parse s)).run := by
  rintro ⟨s, l, b, n, i⟩
  kernel_rfl
def μ_parse : A_parse → Nat := fun ⟨s, l, b, n, i⟩ => (s.size + 1 - i).toNat
theorem step_parse : ∀ a : A_parse, I_parse a → (∃ a', (T_parse a).run = some (.inl a') ∧ I_parse a' ∧ μ_parse a' < μ_parse a ∧ (G_parse a').run = (G_parse a).run) ∨ (∃ y, (T_parse a).run = some (.inr y) ∧ (G_parse a).run = some y ∧ ((∃ id, y.1 = .exit id) ∨ y.1 = .ret)) := by
  rintro ⟨s, l, b, n, i⟩ ⟨h1, h2, h3, h4, h5, h6, h7, h8⟩
  simp only [T_parse]
  have w1 : IntKind.i64.wrap (i + 1) = i + 1 := wrap64 (n := i + 1) (by omega) (by omega)
  have w2 : IntKind.i64.wrap (n + 1) = n + 1 := wrap64 (n := n + 1) (by omega) (by omega)
  by_cases hi : i ≤ s.size
  · rw [goTd hi]
    have hf : s.size + 1 - i.toNat = (s.size + 1 - (i + 1).toNat) + 1 := by omega
    have hs : (i + 1).toNat = i.toNat + 1 := by omega
    by_cases hc : i < s.size ∧ (byteAt s i.toNat != BitVec.ofInt 8 10) = true
    · rw [goTd hc.1, goTa ⟨by omega, hc.1⟩, goT hc.2, w1]
      left
      have hp : pv lnV (s.size + 1 - i.toNat) s b.toNat i.toNat = pv lnV (s.size + 1 - (i + 1).toNat) s b.toNat (i + 1).toNat := by
        rw [hf]
        show (bif decide (i.toNat < s.size) && (byteAt s i.toNat != BitVec.ofInt 8 10) then _ else _) = _
        rw [decide_eq_true (by omega), hc.2, hs]; rfl
      rw [hp] at h8
      refine ⟨_, rfl, ⟨h1, by omega, by omega, h4, h5, by omega, by omega, h8⟩, by simp only [μ_parse]; omega, ?_⟩
      simp only [G_parse]
      rw [hp]
    · have hp : pv lnV (s.size + 1 - i.toNat) s b.toNat i.toNat = match lnV (s.extract b.toNat i.toNat) with
          | none => none
          | some x => (pv lnV (s.size + 1 - (i + 1).toNat) s (i + 1).toNat (i + 1).toNat).map (x ++ ·) := by
        rw [hf]
        show (bif decide (i.toNat < s.size) && (byteAt s i.toNat != BitVec.ofInt 8 10) then _ else _) = _
        have hz : (decide (i.toNat < s.size) && (byteAt s i.toNat != BitVec.ofInt 8 10)) = false := by
          cases hb : byteAt s i.toNat != BitVec.ofInt 8 10 with
          | false => simp
          | true => rw [decide_eq_false (fun h => hc ⟨by omega, hb⟩)]; rfl
        rw [hz, hs]; rfl
      rw [hp] at h8
      left
      generalize hE : s.extract b.toNat i.toNat = E at hp h8 ⊢
      cases hx : lnV E with
      | none => rw [hx] at h8; cases h8
      | some x =>
      rw [hx] at h8 hp
      simp only at h8 hp
      have hxl : x.length ≤ 2 ∧ trOk E ∧ ((eqBA (tmB E) ⟨#[]⟩ = true ∧ x = []) ∨ (eqBA (tmB E) ⟨#[]⟩ = false ∧ onF (tmB E) = true ∧ x = onG (tmB E))) := by
        unfold lnV at hx
        by_cases ht : trOk E
        · rw [show decC (trOk E) = true by unfold decC; exact @decide_eq_true _ (Classical.propDecidable _) ht, cond_true] at hx
          cases he : eqBA (tmB E) ⟨#[]⟩ with
          | true =>
            rw [he] at hx
            have : x = [] := by simpa using hx.symm
            subst this
            exact ⟨by simp, ht, .inl ⟨rfl, rfl⟩⟩
          | false =>
            rw [he, cond_false] at hx
            cases ho : onF (tmB E) && decide ((onG (tmB E)).length ≤ 2) with
            | false => rw [ho] at hx; cases hx
            | true =>
              rw [ho] at hx
              simp only [Bool.and_eq_true, decide_eq_true_eq] at ho
              have : x = onG (tmB E) := by simpa using hx.symm
              subst this
              exact ⟨ho.2, ht, .inr ⟨rfl, ho.1, rfl⟩⟩
        · rw [show decC (trOk E) = false by unfold decC; exact @decide_eq_false _ (Classical.propDecidable _) ht] at hx
          cases hx
      obtain ⟨hx2, htr, hcase⟩ := hxl
      have fin : I_parse (s, l ++ x, i + 1, n + 1, i + 1) ∧ μ_parse (s, l ++ x, i + 1, n + 1, i + 1) < μ_parse (s, l, b, n, i) ∧ (G_parse (s, l ++ x, i + 1, n + 1, i + 1)).run = (G_parse (s, l, b, n, i)).run := by
        refine ⟨⟨by omega, by omega, by omega, h4, by omega, by omega, by rw [List.length_append]; omega, by simpa using h8⟩, by simp only [μ_parse]; omega, ?_⟩
        simp only [G_parse]
        rw [hp]
        cases hq : pv lnV (s.size + 1 - (i + 1).toNat) s (i + 1).toNat (i + 1).toNat with
        | none => rw [hq] at h8; cases h8
        | some r => simp only [Option.map_some, Option.getD_some, List.append_assoc]
      have tail : ∃ a', (Tree.ite (decC (E.size ≤ 65536 ∧ noSemi E 0 ∧ tmF E ∧ ((tmB E).size = 0 ∨ blankB (byteAt (tmB E) ((tmB E).size - 1)) = false)))
          (Tree.ite (!eqBA (tmB E) { data := #[] })
            (Tree.ite (onF (tmB E))
              (Tree.ite (bytesOk (List.length l + List.length (onG (tmB E))) 12 && (List.length l + List.length (onG (tmB E))).ble 140737488355328)
                (Tree.ret (Sum.inl (s, l ++ onG (tmB E), IntKind.i64.wrap (i + 1), IntKind.i64.wrap (n + 1), IntKind.i64.wrap (i + 1)))) Tree.fail) Tree.fail)
            (Tree.ret (Sum.inl (s, l, IntKind.i64.wrap (i + 1), IntKind.i64.wrap (n + 1), IntKind.i64.wrap (i + 1))))) Tree.fail : Tree (A_parse ⊕ (Ex × St))).run = some (.inl a') ∧ I_parse a' ∧ μ_parse a' < μ_parse (s, l, b, n, i) ∧ (G_parse a').run = (G_parse (s, l, b, n, i)).run := by
        rw [show (Tree.ite (decC (E.size ≤ 65536 ∧ noSemi E 0 ∧ tmF E ∧ ((tmB E).size = 0 ∨ blankB (byteAt (tmB E) ((tmB E).size - 1)) = false))) _ Tree.fail : Tree (A_parse ⊕ (Ex × St))).run = _ from goC htr]
        rcases hcase with ⟨he, rfl⟩ | ⟨he, ho, rfl⟩
        · rw [goFN he, w1, w2]
          exact ⟨_, rfl, by simpa using fin⟩
        · rw [goTN he, goT ho, goTb ⟨by omega, by omega⟩, w1, w2]
          exact ⟨_, rfl, fin⟩
      by_cases hl : i < s.size
      · have hb : (byteAt s i.toNat != BitVec.ofInt 8 10) = false := by
          cases hb : byteAt s i.toNat != BitVec.ofInt 8 10 with
          | false => rfl
          | true => exact absurd ⟨hl, hb⟩ hc
        rw [goTd hl, goTa ⟨by omega, hl⟩, goF hb, goTa ⟨by omega, hi⟩, goTa ⟨h1, by omega⟩]
        exact tail
      · rw [goFd hl, goTa ⟨by omega, hi⟩, goTa ⟨h1, by omega⟩]
        exact tail
  · right
    rw [goFd hi]
    refine ⟨_, rfl, ?_, .inl ⟨0, rfl⟩⟩
    simp only [G_parse]
    rw [show s.size + 1 - i.toNat = 0 by omega]
    exact congrArg (fun z : Slots => some (Ex.exit 0, (⟨[(5, AV.p (.one (.h 0)))], [(0, Ob.row insT z)], 1⟩ : St))) (List.append_nil l)
theorem lok_parse : LOk Tryz.prog (lk L_one) Tryz.f72.ntmps 0 30 LT_parse c_parse := lok_view (noL_ok2 _ _ _ _ _ _ _) (by kernel_rfl) e_parse (by rintro ⟨⟨s, ⟨⟩, b, n, i, ⟨⟩⟩, ⟨l, ⟨⟩⟩⟩; exact ⟨(s, l, b, n, i), rfl⟩) T_parse turn_parse I_parse G_parse (by rintro ⟨s, l, b, n, i⟩; rfl) μ_parse step_parse
def ea_parse : ByteArray → denAs [.c .s] := fun s => (s, ())
def eo_parse : ByteArray → denObs [] := fun s => ()
noncomputable def E_parse : ByteArray → Tree (AV × List Ob) := fun s => 
Tree.ite (decide ((65536 : Int) < (↑s.size : Int))) (Tree.ret (AV.t [Part.one (Cell.h (0 : Nat)), Part.one (Cell.v (Value.int IntKind.i64 (0 : Int))), Part.one (Cell.v (Value.int IntKind.i64 (30 : Int)))], [Ob.row insT []])) (Tree.ite (decC ((0 : Int) ≤ (0 : Int) ∧ (0 : Int) ≤ (0 : Int) ∧ (0 : Int) ≤ (↑s.size : Int) + (1 : Int) ∧ s.size ≤ (65536 : Nat) ∧ (0 : Int) ≤ (1 : Int) ∧ (1 : Int) ≤ (1 : Int) ∧ (0 : Int) ≤ (0 : Int) ∧ (pv lnV (s.size + (1 : Nat) - (0 : Nat)) s (0 : Nat) (0 : Nat)).isSome = true)) (Tree.ret (AV.t [Part.one (Cell.h (0 : Nat)), Part.one (Cell.v (Value.int IntKind.i64 (0 : Int))), Part.one (Cell.v (Value.int IntKind.i64 (0 : Int)))], [Ob.row insT ([] ++ (pv lnV (s.size + (1 : Nat) - (0 : Nat)) s (0 : Nat) (0 : Nat)).getD [])])) Tree.fail)
noncomputable def F_parse : denAs [.c .s] → denObs [] → Tree (AV × List Ob) := fun x y => match x, y with
  | (s, ()), () => ckP (s.size ≤ 65536 ∧ (pv lnV (s.size + 1) s 0 0).isSome = true) (.ret (.t [.one (.h 0), .one (.v (.int .i64 0)), .one (.v (.int .i64 0))], [.row insT ((pv lnV (s.size + 1) s 0 0).getD [])]))
theorem ev_parse : ∀ a, (evalFnL Tryz.prog (lk L_one) 30 LT_parse Tryz.f72 c_parse [(0, insT)] (encAs [.c .s] (ea_parse a)) (encOs [] (eo_parse a))).run = (E_parse a).run := by
  rintro s
  kernel_rfl
theorem fe_parse : ∀ a y, (F_parse (ea_parse a) (eo_parse a)).run = some y → (E_parse a).run = some y := by
  rintro s y h
  obtain ⟨⟨h1, h2⟩, h⟩ := ckP_run h
  rw [← h]
  dsimp only [E_parse]
  rw [goFd (show ¬ (65536 : Int) < s.size by omega)]
  refine (ckP_true ⟨Int.le_refl 0, Int.le_refl 0, by omega, h1, by omega, by omega, by simp, h2⟩ _).trans ?_
  rfl
theorem ok_parse : SummOk Kn Tryz.prog 72 (sumT [.any] false [.c .s] [] F_parse) := sumT_view tok_one Tryz.checked.mixed Tryz.func72 (by kernel_rfl) (by rfl) 30 [(0, insT)] ea_parse eo_parse
  (by rintro ⟨s, ⟨⟩⟩ ⟨⟩; exact ⟨s, rfl, rfl⟩) LT_parse 0 (by rintro ⟨⟩; rfl) lok_parse E_parse ev_parse fe_parse
noncomputable def L_parse : List (Nat × Summ) := (72, (sumT [.any] false [.c .s] [] F_parse)) :: L_one
theorem tok_parse : TOk Kn Tryz.prog (lk L_parse) := lk_cons ok_parse tok_one
abbrev Bys := List (BitVec 8 × Unit)
def bytesT : Tys := .cons (.w .u8) .nil
def subB (b : BitVec 8) : BitVec 8 := bif b == BitVec.ofInt 8 59 then BitVec.ofInt 8 10 else b
def subR : Nat → ByteArray → Nat → Bys
  | 0, _, _ => []
  | f + 1, s, i => (subB (byteAt s i), ()) :: subR f s (i + 1)
theorem subR_len : ∀ (f : Nat) (s : ByteArray) (i : Nat), (subR f s i).length = f
  | 0, _, _ => rfl
  | f + 1, s, i => congrArg (· + 1) (subR_len f s (i + 1))
def txt (s : ByteArray) : ByteArray := strOf (subR s.size s 0)
theorem strOf_size (l : Bys) : (strOf l).size = l.length := by
  show ((l.map fun x => UInt8.ofBitVec x.1).toArray).size = _
  simp
theorem txt_size (s : ByteArray) : (txt s).size = s.size := (strOf_size _).trans (subR_len _ _ _)
noncomputable abbrev c_lines : Code := Tryz.f43.body.getD .skip
def p_lines : List Nat := [0, 1, 0, 1, 1]
def sh_lines : Shape := ⟨[(0, .c .s), (3, .c (.h 0)), (4, .c (.i .i64))], [.row bytesT]⟩
@[reducible] def A_lines : Type := ByteArray × Bys × Int
def e_lines : A_lines → sh_lines.den := fun ⟨s, o, i⟩ => ((s, (), i, ()), (o, ()))
def v_lines : sh_lines.den → A_lines := fun d => match d with
  | ((s, (), i, ()), (o, ())) => (s, o, i)
def I_lines : A_lines → Prop := fun ⟨s, o, i⟩ => 0 ≤ i ∧ i ≤ s.size ∧ s.size ≤ 65536 ∧ (o.length : Int) = i
noncomputable def G_lines : A_lines → Tree (Ex × St) := fun ⟨s, o, i⟩ => .ret (.exit 0, ⟨[(3, .p (.one (.h 0)))], [(0, .row bytesT (o ++ subR (s.size - i.toNat) s i.toNat))], 1⟩)
noncomputable def orc_lines : Orc := ⟨sh_lines, [(3, bytesT)], [3], [], fun d => ckP (I_lines (v_lines d)) (G_lines (v_lines d))⟩
noncomputable def LT_lines : LT := oneL p_lines orc_lines (noL)
noncomputable def T_lines : ByteArray × Bys × Int → Tree (A_lines ⊕ (Ex × St)) := fun ⟨s, o, i⟩ => 
Tree.ite (decide (i < (↑s.size : Int))) (Tree.ite (decide ((0 : Int) ≤ i) && decide (i < (↑s.size : Int))) (Tree.ite (byteAt s i.toNat == BitVec.ofInt (8 : Nat) (59 : Int)) (Tree.ite (bytesOk (List.length o + (1 : Nat)) (1 : Nat) && (List.length o + (1 : Nat)).ble (140737488355328 : Nat)) (Tree.ret (Sum.inl (s, o ++ [(BitVec.ofInt (8 : Nat) (10 : Int), ())], IntKind.i64.wrap (i + (1 : Int))))) Tree.fail) (Tree.ite (decide ((0 : Int) ≤ i) && decide (i < (↑s.size : Int))) (Tree.ite (bytesOk (List.length o + (1 : Nat)) (1 : Nat) && (List.length o + (1 : Nat)).ble (140737488355328 : Nat)) (Tree.ret (Sum.inl (s, o ++ [(byteAt s i.toNat, ())], IntKind.i64.wrap (i + (1 : Int))))) Tree.fail) Tree.fail)) Tree.fail) (Tree.ret (Sum.inr (Ex.exit (0 : Nat), { env := [((3 : Nat), AV.p (Part.one (Cell.h (0 : Nat))))], hp := [((0 : Nat), Ob.row bytesT o)], nx := (1 : Nat) })))
theorem turn_lines : ∀ a : A_lines, (turnT 0 orc_lines (evalCode Tryz.prog (lk L_parse) Tryz.f43.ntmps 0 30 LT_lines (bodyAt c_lines p_lines) false (0 :: p_lines)) (sh_lines.enc (e_lines a))).run = ((T_lines a).bind fun s => .ret (turnV sh_lines e_lines s)).run := by
  rintro ⟨s, o, i⟩
  kernel_rfl
def μ_lines : A_lines → Nat := fun ⟨s, o, i⟩ => (s.size - i).toNat
theorem step_lines : ∀ a : A_lines, I_lines a → (∃ a', (T_lines a).run = some (.inl a') ∧ I_lines a' ∧ μ_lines a' < μ_lines a ∧ (G_lines a').run = (G_lines a).run) ∨ (∃ y, (T_lines a).run = some (.inr y) ∧ (G_lines a).run = some y ∧ ((∃ id, y.1 = .exit id) ∨ y.1 = .ret)) := by
  rintro ⟨s, o, i⟩ ⟨h1, h2, h3, h4⟩
  simp only [T_lines]
  have w1 : IntKind.i64.wrap (i + 1) = i + 1 := wrap64 (n := i + 1) (by omega) (by omega)
  by_cases hi : i < s.size
  · rw [goTd hi, goTa ⟨h1, hi⟩]
    have hd : subR (s.size - i.toNat) s i.toNat = (subB (byteAt s i.toNat), ()) :: subR (s.size - (i + 1).toNat) s (i + 1).toNat := by
      rw [show s.size - i.toNat = (s.size - (i + 1).toNat) + 1 by omega, show (i + 1).toNat = i.toNat + 1 by omega]; rfl
    have fin : ∀ c, subB (byteAt s i.toNat) = c → I_lines (s, o ++ [(c, ())], i + 1) ∧ μ_lines (s, o ++ [(c, ())], i + 1) < μ_lines (s, o, i) ∧ (G_lines (s, o ++ [(c, ())], i + 1)).run = (G_lines (s, o, i)).run := by
      intro c hc
      refine ⟨⟨by omega, by omega, h3, by rw [List.length_append]; simp only [List.length_cons, List.length_nil]; omega⟩, by simp only [μ_lines]; omega, ?_⟩
      simp only [G_lines]
      rw [hd, hc, List.append_assoc]; rfl
    left
    rcases Bool.eq_false_or_eq_true (byteAt s i.toNat == BitVec.ofInt 8 59) with e | e
    · rw [goT e, goTb ⟨by omega, by omega⟩, w1]
      exact ⟨_, rfl, fin (BitVec.ofInt 8 10) (by unfold subB; rw [e]; rfl)⟩
    · rw [goF e, goTa ⟨h1, hi⟩, goTb ⟨by omega, by omega⟩, w1]
      exact ⟨_, rfl, fin (byteAt s i.toNat) (by unfold subB; rw [e]; rfl)⟩
  · right
    rw [goFd hi]
    refine ⟨_, rfl, ?_, .inl ⟨0, rfl⟩⟩
    simp only [G_lines]
    rw [show s.size - i.toNat = 0 by omega]
    exact congrArg (fun z : Bys => some (Ex.exit 0, (⟨[(3, AV.p (.one (.h 0)))], [(0, Ob.row bytesT z)], 1⟩ : St))) (List.append_nil o)
theorem lok_lines : LOk Tryz.prog (lk L_parse) Tryz.f43.ntmps 0 30 LT_lines c_lines := lok_view (noL_ok2 _ _ _ _ _ _ _) (by kernel_rfl) e_lines (by rintro ⟨⟨s, ⟨⟩, i, ⟨⟩⟩, ⟨o, ⟨⟩⟩⟩; exact ⟨(s, o, i), rfl⟩) T_lines turn_lines I_lines G_lines (by rintro ⟨s, o, i⟩; rfl) μ_lines step_lines
def ea_lines : ByteArray → denAs [.c .s] := fun s => (s, ())
def eo_lines : ByteArray → denObs [] := fun s => ()
noncomputable def E_lines : ByteArray → Tree (AV × List Ob) := fun s => 
Tree.ite (decC ((0 : Int) ≤ (0 : Int) ∧ (0 : Int) ≤ (↑s.size : Int) ∧ s.size ≤ (65536 : Nat) ∧ (0 : Int) = (0 : Int))) (Tree.ite (decC ((strOf ([] ++ subR (s.size - (0 : Nat)) s (0 : Nat))).size ≤ (65536 : Nat) ∧ (pv lnV ((strOf ([] ++ subR (s.size - (0 : Nat)) s (0 : Nat))).size + (1 : Nat)) (strOf ([] ++ subR (s.size - (0 : Nat)) s (0 : Nat))) (0 : Nat) (0 : Nat)).isSome = true)) (Tree.ret (AV.p (Part.one (Cell.h (0 : Nat))), [Ob.row insT ((pv lnV ((strOf ([] ++ subR (s.size - (0 : Nat)) s (0 : Nat))).size + (1 : Nat)) (strOf ([] ++ subR (s.size - (0 : Nat)) s (0 : Nat))) (0 : Nat) (0 : Nat)).getD [])])) Tree.fail) Tree.fail
noncomputable def F_lines : denAs [.c .s] → denObs [] → Tree (AV × List Ob) := fun x y => match x, y with
  | (s, ()), () => ckP (s.size ≤ 65536 ∧ (pv lnV (s.size + 1) (txt s) 0 0).isSome = true) (.ret (AV.c (.h 0), [.row insT ((pv lnV (s.size + 1) (txt s) 0 0).getD [])]))
theorem ev_lines : ∀ a, (evalFnL Tryz.prog (lk L_parse) 30 LT_lines Tryz.f43 c_lines [(0, insT)] (encAs [.c .s] (ea_lines a)) (encOs [] (eo_lines a))).run = (E_lines a).run := by
  rintro s
  kernel_rfl
theorem fe_lines : ∀ a y, (F_lines (ea_lines a) (eo_lines a)).run = some y → (E_lines a).run = some y := by
  rintro s y h
  obtain ⟨⟨h1, h2⟩, h⟩ := ckP_run h
  rw [← h]
  dsimp only [E_lines]
  refine (ckP_true ⟨Int.le_refl 0, by omega, h1, rfl⟩ _).trans ?_
  have hs := txt_size s
  change (Tree.ite (decC ((txt s).size ≤ 65536 ∧ (pv lnV ((txt s).size + 1) (txt s) 0 0).isSome = true)) (Tree.ret (AV.c (.h 0), [Ob.row insT ((pv lnV ((txt s).size + 1) (txt s) 0 0).getD [])])) .fail).run = _
  rw [hs]
  exact ckP_true ⟨h1, h2⟩ _
theorem ok_lines : SummOk Kn Tryz.prog 43 (sumT [.any] false [.c .s] [] F_lines) := sumT_view tok_parse Tryz.checked.mixed Tryz.func43 (by kernel_rfl) (by rfl) 30 [(0, insT)] ea_lines eo_lines
  (by rintro ⟨s, ⟨⟩⟩ ⟨⟩; exact ⟨s, rfl, rfl⟩) LT_lines 0 (by rintro ⟨⟩; rfl) lok_lines E_lines ev_lines fe_lines
end Go.Proofs.YtfbldjaepenfpaaGreatDoor.Fp
