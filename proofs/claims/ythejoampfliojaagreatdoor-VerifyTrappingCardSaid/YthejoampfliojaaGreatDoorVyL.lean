/-
  The law by its parts: the place in the row of programs is one of sixteen.
-/
import Derived.Test.YthejoampfliojaaGreatDoorVk
namespace Go.Proofs.YthejoampfliojaaGreatDoor
open Go Go.Sy Go.Sz Go.Vy Go.Proofs.YthejoampfliojaaGreatDoor
set_option linter.unusedVariables false
set_option linter.unusedSimpArgs false
set_option maxRecDepth 100000

/-! ### The law's code by its parts -/
noncomputable def seqL : Code → Code
  | .seq x _ => x
  | c => c
noncomputable def seqR : Code → Code
  | .seq _ y => y
  | c => c
noncomputable def opsR : Code → Array Oper
  | .region _ ops _ => ops
  | _ => #[]
noncomputable def idR : Code → Nat
  | .region id _ _ => id
  | _ => 0
noncomputable def c3 : Code := Tryz.f3.body.getD .skip
noncomputable def A0 : Code := seqL c3
noncomputable def A1 : Code := seqL (seqR c3)
noncomputable def A3 : Code := seqL (seqR (seqR c3))
noncomputable def A4 : Code := seqL (seqR (seqR (seqR c3)))
noncomputable def A5 : Code := seqR (seqR (seqR (seqR c3)))
noncomputable def ops4 : Array Oper := opsR A4
noncomputable def N3 : Nat := Tryz.f3.ntmps
theorem c3_eq : c3 = .seq A0 (.seq A1 (.seq A3 (.seq (.region (idR A4) ops4 true) A5))) := by kernel_rfl
noncomputable def o40 : Oper := (ops4.toList.drop 0).headD default
noncomputable def o41 : Oper := (ops4.toList.drop 1).headD default
noncomputable def o42 : Oper := (ops4.toList.drop 2).headD default
noncomputable def o43 : Oper := (ops4.toList.drop 3).headD default
noncomputable def rest4 : List Oper := ops4.toList.drop 4
theorem ops4_eq : ops4.toList = o40 :: o41 :: o42 :: o43 :: rest4 := by kernel_rfl
noncomputable def cell (v : Int) : AV := AV.c (.v (.int .i64 v))
noncomputable def tb (l : List (Nat × Summ)) : Tab := lkC ((4, Skn) :: l)
noncomputable def ev3 (T : Tab) (c : Code) (p : List Nat) (st : St) : Tree (Ex × St) := evalCode Tryz.prog T N3 0 400 noL c false p st
noncomputable def st0 (v : Int) : St := ⟨argEnv [cell v] 0, numOb [] 0, 0⟩
noncomputable def nrm (x : Option (Ex × St)) : St := match x with
  | some x => x.2
  | none => ⟨[], [], 0⟩
noncomputable def st1 (v : Int) : St := nrm (ev3 (tb []) A0 [0] (st0 v)).run
noncomputable def st2 (v : Int) : St := nrm (ev3 (tb []) A1 [0, 1] (st1 v)).run
noncomputable def st3 (v : Int) : St := nrm (ev3 (tb []) A3 [0, 1, 1] (st2 v)).run
theorem p1 (l : List (Nat × Summ)) (v : Int) : (ev3 (tb l) A0 [0] (st0 v)).run = some (.normal, st1 v) := by kernel_rfl
theorem p2 (l : List (Nat × Summ)) (v : Int) : (ev3 (tb l) A1 [0, 1] (st1 v)).run = some (.normal, st2 v) := by kernel_rfl
theorem p3 (l : List (Nat × Summ)) (v : Int) : (ev3 (tb l) A3 [0, 1, 1] (st2 v)).run = some (.normal, st3 v) := by kernel_rfl
noncomputable def stp (l : List (Nat × Summ)) (v : Int) (o : Oper) (acc : List Ev) : Tree Ev := stepEv Tryz.prog (tb l) N3 ops4 (Go.Sz.look (st3 v).env) (getH (st3 v).hp) (st3 v).nx o acc
noncomputable def setR (e : Ev) (v : Int) : Ev := ⟨e.i, e.ks, e.js, e.an, e.nx, e.dst, ⟨some (cell v), [], 0⟩⟩
noncomputable def ev00 : Ev := ⟨0, [], [], [], 0, none, ⟨none, [], 0⟩⟩
noncomputable def e0 : Ev := (stp [] 0 o40 []).run.getD ev00
noncomputable def e1 : Ev := (stp [] 0 o41 [setR e0 0]).run.getD ev00
noncomputable def e2 : Ev := (stp [] 0 o42 [setR e1 0, setR e0 0]).run.getD ev00
noncomputable def e3 : Ev := (stp [] 0 o43 [setR e2 0, setR e1 0, setR e0 0]).run.getD ev00
theorem q0 (l : List (Nat × Summ)) (v : Int) : (stp l v o40 []).run = some (setR e0 v) := by kernel_rfl
theorem q1 (l : List (Nat × Summ)) (v : Int) : (stp l v o41 [setR e0 v]).run = some (setR e1 (v.tmod 16)) := by kernel_rfl
theorem q2 (l : List (Nat × Summ)) (v a1 : Int) : (stp l v o42 [setR e1 a1, setR e0 v]).run = some (setR e2 (IntKind.i64.wrap (a1 + 16))) := by kernel_rfl
theorem q3 (l : List (Nat × Summ)) (v a1 a2 : Int) : (stp l v o43 [setR e2 a2, setR e1 a1, setR e0 v]).run = some (setR e3 (a2.tmod 16)) := by kernel_rfl
/-- The rest of the region, the place in the row known. -/
noncomputable def evsOf (l : List (Nat × Summ)) (c v a1 a2 : Int) : Option (List Ev × Option PanR) := (evsT Tryz.prog (tb l) N3 ops4 (Go.Sz.look (st3 v).env) (getH (st3 v).hp) (st3 v).nx rest4 [setR e3 c, setR e2 a2, setR e1 a1, setR e0 v]).run
noncomputable def endOf (l : List (Nat × Summ)) (st : St) : Option (AV × List Ob) := ((ev3 (tb l) A5 [1, 1, 1, 1] st).bind fun x => match x.1 with
      | .exit _ => .fail
      | .normal => (resultsT Tryz.prog (getH x.2.hp) (Go.Sz.look x.2.env) Tryz.f3.results.toList).bind fun ps => (outT 0 [] ps x.2).bind retT
      | .ret => (resultsT Tryz.prog (getH x.2.hp) (Go.Sz.look x.2.env) Tryz.f3.results.toList).bind fun ps => (outT 0 [] ps x.2).bind retT
      | .pan q => (outT 0 [] [q] x.2).bind pansT).run
noncomputable def isTrueR (x : Option (AV × List Ob)) : Bool := match x with
  | some (.p (.one (.v (.bool true))), []) => true
  | _ => false
theorem isTrueR_eq {x : Option (AV × List Ob)} (h : isTrueR x = true) : x = some (AV.b true, []) := by
  unfold isTrueR at h
  split at h
  · rfl
  · cases h
noncomputable def finB (l : List (Nat × Summ)) (c v a1 a2 : Int) : Bool := match evsOf l c v a1 a2 with
  | some (evs, none) => isTrueR (endOf l ⟨envOf (st3 v).env evs, hpOf (st3 v).hp evs, nxt (st3 v).nx evs⟩)
  | _ => false
theorem law_of {l : List (Nat × Summ)} {c v : Int} (h : ∀ a1 a2, finB l c v a1 a2 = true) (hc : (IntKind.i64.wrap (v.tmod 16 + 16)).tmod 16 = c) :
    (evalFnL Tryz.prog (tb l) 400 noL Tryz.f3 c3 [] [cell v] []).run = some (AV.b true, []) := by
  have h := h (v.tmod 16) (IntKind.i64.wrap (v.tmod 16 + 16))
  unfold finB at h
  split at h
  · rename_i evs he
    have h := isTrueR_eq h
    have hev : (evsT Tryz.prog (tb l) N3 ops4 (Go.Sz.look (st3 v).env) (getH (st3 v).hp) (st3 v).nx ops4.toList []).run = some (evs, none) := by
      rw [ops4_eq]
      refine evsT_step (q0 l v) (evsT_step (q1 l v) (evsT_step (q2 l v _) (evsT_step (q3 l v _ _) ?_)))
      rw [hc]
      exact he
    have hdr : (drawT Tryz.prog (tb l) N3 ops4 (st3 v)).run = some (none, ⟨envOf (st3 v).env evs, hpOf (st3 v).hp evs, nxt (st3 v).nx evs⟩) := by
      unfold drawT
      rw [Tree.run_bind, hev]
      rfl
    unfold endOf at h
    obtain ⟨⟨ex, stF⟩, h1, h2⟩ := Tree.run_bind_some h
    have hall : (evalCode Tryz.prog (tb l) N3 0 400 noL c3 false [] (st0 v)).run = some (ex, stF) := by
      rw [c3_eq]
      exact eval_seq (p1 l v) (eval_seq (p2 l v) (eval_seq (p3 l v) (eval_seq (eval_draw hdr) h1)))
    have hble : Nat.ble [cell v].length Tryz.f3.ntmps = true := by kernel_rfl
    unfold evalFnL
    rw [hble, cond_true, Tree.run_bind]
    have hall' : (evalCode Tryz.prog (tb l) Tryz.f3.ntmps ([] : List Ob).length 400 noL c3 false [] ⟨argEnv [cell v] 0, numOb [] 0, ([] : List Ob).length⟩).run = some (ex, stF) := hall
    rw [hall']
    exact h2
  · cases h
theorem places (v : Int) : ∃ c : Fin 16, (IntKind.i64.wrap (v.tmod 16 + 16)).tmod 16 = (c.val : Int) := by
  have h0 : v.tmod 16 < 16 := Int.tmod_lt_of_pos v (by decide)
  have h1 : -16 < v.tmod 16 := Int.lt_tmod_of_pos v (by decide)
  have h2 : IntKind.i64.wrap (v.tmod 16 + 16) = v.tmod 16 + 16 := wrap64 (by omega) (by omega)
  rw [h2]
  have h3 : (v.tmod 16 + 16).tmod 16 < 16 := Int.tmod_lt_of_pos _ (by decide)
  have h4 : 0 ≤ (v.tmod 16 + 16).tmod 16 := Int.tmod_nonneg _ (by omega)
  exact ⟨⟨((v.tmod 16 + 16).tmod 16).toNat, by omega⟩, by simp only []; omega⟩
end Go.Proofs.YthejoampfliojaaGreatDoor
