/-
  The law GenSoup by its tree (written by our own gen_gsb.py).
-/
import Derived.Test.YtpocmhfgnpgikaaGreatDoorGsA
import Derived.Test.YtpocmhfgnpgikaaGreatDoorVk
namespace Go.Proofs.YtpocmhfgnpgikaaGreatDoor
open Go Go.Sy Go.Sz Go.In Go.Proofs.YtpocmhfgnpgikaaGreatDoor
set_option linter.unusedVariables false
set_option linter.unusedSimpArgs false
set_option linter.constructorNameAsVariable false
set_option maxRecDepth 100000
theorem ok_know : SummOk Kn Tryz.prog 4 Skn := ok_kn
noncomputable def L_know : List (Nat × Summ) := (4, Skn) :: L_insns
theorem tok_know : TOk Kn Tryz.prog (lk L_know) := lk_cons ok_know tok_insns
noncomputable def E_law : Bys → Tree (AV × List Ob) := fun s => 
Tree.ite (decide ((1000 : Int) < (↑(List.length s) : Int))) (Tree.ret (AV.p (Part.one (Cell.v (Value.bool true))), [])) (Tree.ite (bytesOk ((0 : Nat) + List.length s) (1 : Nat) && ((0 : Nat) + List.length s).ble (140737488355328 : Nat)) (Tree.ite (decC (List.length (soupV ([] ++ s)) ≤ (140737488355328 : Nat))) (Tree.ite ((chk (soupV ([] ++ s))).snd == (0 : Int)) (Tree.ite (decide ((↑(List.length (soupV ([] ++ s))) : Int) ≤ (512 : Int))) (Tree.ite (decide ((0 : Int) ≤ bif decide ((256 : Int) < (↑(List.length s) : Int)) then (256 : Int) else (↑(List.length s) : Int)) && decide ((bif decide ((256 : Int) < (↑(List.length s) : Int)) then (256 : Int) else (↑(List.length s) : Int)) ≤ (↑(List.length s) : Int))) (Tree.ite (decC (List.length (soupV ([] ++ s)) ≤ (1000000 : Nat) ∧ List.length (soupV (List.take ((bif decide ((256 : Int) < (↑(List.length s) : Int)) then (256 : Int) else (↑(List.length s) : Int)).toNat - (0 : Nat)) (List.drop (0 : Nat) s))) ≤ (1000000 : Nat))) (Tree.ret (AV.p (Part.one (Cell.v (Value.bool (sameI (soupV ([] ++ s)) (soupV (List.take ((bif decide ((256 : Int) < (↑(List.length s) : Int)) then (256 : Int) else (↑(List.length s) : Int)).toNat - (0 : Nat)) (List.drop (0 : Nat) s))))))), [])) Tree.fail) Tree.fail) (Tree.ret (AV.p (Part.one (Cell.v (Value.bool false))), []))) (Tree.ret (AV.p (Part.one (Cell.v (Value.bool false))), []))) Tree.fail) Tree.fail)
theorem ev_law (s : Bys) : (evalFnL Tryz.prog (lk L_know) 20 noL Tryz.f3 (Tryz.f3.body.getD .skip) [] [.p (.one (.d bytesT s))] []).run = (E_law s).run := by kernel_rfl
theorem exit_chk (n : Int) : (chk (exitL n)).2 = 0 := by kernel_rfl
theorem soupV_len (s : Bys) : (soupV s).length ≤ 61 := by
  unfold soupV
  cases (chk (soupL (soupT s))).2 != 0 with
  | true => exact (by decide : 2 ≤ 61)
  | false => exact soupL_len _
theorem soupV_chk (s : Bys) : (chk (soupV s)).2 = 0 := by
  unfold soupV
  cases hc : (chk (soupL (soupT s))).2 != 0 with
  | true => exact exit_chk _
  | false => exact bne_eq_false_iff_eq.1 hc
theorem soupV_take (s : Bys) : soupV (soupT s) = soupV s := by
  have e : soupT (soupT s) = soupT s := by unfold soupT; rw [List.take_take]; rfl
  unfold soupV
  rw [e]
theorem true_law (s : Bys) : (E_law s).run = some (AV.b true, []) := by
  dsimp only [E_law]
  by_cases h : (1000 : Int) < s.length
  · exact goTd h
  refine (goFd h).trans ?_
  have l1 := soupV_len s
  have l2 := soupV_len (soupT s)
  refine (goT (by
    unfold bytesOk
    rw [Bool.and_eq_true]
    exact ⟨Nat.ble_eq_true_of_le (by omega), Nat.ble_eq_true_of_le (by omega)⟩)).trans ?_
  refine (goT (decP (Nat.le_trans l1 (by decide)))).trans ?_
  refine (goT (beq_iff_eq.2 (soupV_chk s))).trans ?_
  refine (goTd (show ((soupV s).length : Int) ≤ 512 by omega)).trans ?_
  obtain ⟨B, e1, b1, b2, e2⟩ := soupT_eq s
  rw [e1, e2]
  refine (goT (by rw [Bool.and_eq_true, decide_eq_true_eq, decide_eq_true_eq]; exact ⟨b1, b2⟩)).trans ?_
  refine (goT (decP ⟨Nat.le_trans l1 (by decide), Nat.le_trans l2 (by decide)⟩)).trans ?_
  have e3 : sameI (soupV s) (soupV (soupT s)) = true := decide_eq_true (soupV_take s).symm
  exact congrArg (fun b : Bool => (some (AV.p (Part.one (Cell.v (Value.bool b))), []) : Option (AV × List Ob))) e3
end Go.Proofs.YtpocmhfgnpgikaaGreatDoor
