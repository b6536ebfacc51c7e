/-
  The contracts of package flow's small functions (written by our own gen_fla.py).
-/
import Derived.Test.YtdbnbijillmlcaaInE
import Derived.Test.YtdbnbijillmlcaaFlS
import Derived.Test.YtdbnbijillmlcaaSzAJ
namespace Go.Proofs.Ytdbnbijillmlcaa
open Go Go.Sy Go.Sz Go.In Go.Fl Go.Proofs.Ytdbnbijillmlcaa
set_option linter.unusedVariables false
set_option linter.unusedSimpArgs false
set_option linter.constructorNameAsVariable false
set_option maxRecDepth 100000

/-- where a slot's operation goes to -/
def targetI (l : Slots) (k : Int) : Int := bif namesB (slotA l k.toNat) then callI l k else jumpI l k
noncomputable def targetB (l : Slots) (k : Int) : Bool := !decide (k < 0) && (!decide ((l.length : Int) ≤ k) && (B_known (slotA l k.toNat).1 (slotA l k.toNat).2.1 (slotA l k.toNat).2.2.1 (slotA l k.toNat).2.2.2.1 (slotA l k.toNat).2.2.2.2.1 && ((namesB (slotA l k.toNat) || jumpsB (slotA l k.toNat).1) && (!decide (targetI l k < 0) && !decide ((l.length : Int) ≤ targetI l k)))))
noncomputable def targetT (l : Slots) (k : Int) : Tree (AV × List Ob) := .ite (targetB l k) (.ret (.t [.one (.v (.int .i64 (targetI l k))), .one (.v (.bool true))], [])) (.ret (.t [.one (.v (.int .i64 0)), .one (.v (.bool false))], []))
/-- the subprogram that an operation names -/
noncomputable def namesV (l : Slots) (k : Int) : Bool := !jmpB (opA l k.toNat) && targetB l k
noncomputable def namesT (l : Slots) (k : Int) : Tree (AV × List Ob) := .ite (namesV l k) (.ret (.t [.one (.v (.int .i64 (targetI l k))), .one (.v (.bool true))], [])) (.ret (.t [.one (.v (.int .i64 0)), .one (.v (.bool false))], []))
noncomputable def bothL (l : Slots) (k : Int) : Ints := nextL l k ++ bif namesV l k then [(targetI l k, ())] else []
def errT (e : Int) (ts : Tys) : Tree (AV × List Ob) := .ret (.t [.one (.h 0), .one (.v (.int .i64 e))], [.row ts []])
noncomputable def nextsT (l : Slots) (k : Int) : Tree (AV × List Ob) := .ite ((chk l).2 == 0) (.ite (decide (0 ≤ k) && (decide (k < (l.length : Int)) && !secB l k.toNat)) (.ret (.t [.one (.h 0), .one (.v (.int .i64 0))], [.row intsT (nextL l k)])) (errT 150 intsT)) (errT (chk l).2 intsT)
noncomputable def reachL (l : Slots) : Bools := dfs (bothL l) (todo (List.replicate l.length (false, ())) [(0, ())]) (List.replicate l.length (false, ())) [(0, ())]
noncomputable def reachT (l : Slots) : Tree (AV × List Ob) := .ite ((chk l).2 == 0) (.ret (.t [.one (.h 0), .one (.v (.int .i64 0))], [.row boolsT (reachL l)])) (errT (chk l).2 boolsT)
def goodL (l : Slots) : Prop := (chk l).2 = 0 ∧ l.length ≤ 1000
/-- an operation's place -/
def goodK (l : Slots) (k : Int) : Prop := 0 ≤ k ∧ k < l.length ∧ secB l k.toNat = false
def wayI (l : Slots) (o : Bools) (w : Ints) : Prop := goodL l ∧ o.length = l.length ∧ (∀ x ∈ w, goodK l x.1) ∧ w.length + 3 * falses o ≤ 3 * l.length + 1
def ea_target : Slots × Int → denAs [.c (.d insT), .c (.i .i64)] := fun ⟨l, k⟩ => (l, k, ())
def eo_target : Slots × Int → denObs [] := fun ⟨l, k⟩ => ()
noncomputable def E_target : Slots × Int → Tree (AV × List Ob) := fun ⟨l, k⟩ => 
Tree.ite (!decide (k < (0 : Int))) (Tree.ite (!decide ((↑(List.length l) : Int) ≤ k)) (Tree.ite (decide ((0 : Int) ≤ k) && decide (k < (↑(List.length l) : Int))) (Tree.ite (!B_known (List.getD l k.toNat noIns).fst (List.getD l k.toNat noIns).snd.fst (List.getD l k.toNat noIns).snd.snd.fst (List.getD l k.toNat noIns).snd.snd.snd.fst (List.getD l k.toNat noIns).snd.snd.snd.snd.fst) (Tree.ret (AV.t [Part.one (Cell.v (Value.int IntKind.i64 (0 : Int))), Part.one (Cell.v (Value.bool false))], [])) (Tree.ite (decC ((0 : Int) ≤ k ∧ k < (↑(List.length l) : (ShA.c (ShC.i IntKind.i64)).den))) (Tree.ite (!namesB (slotA l k.toNat)) (Tree.ite (decC ((0 : Int) ≤ k ∧ k < (↑(List.length l) : (ShA.c (ShC.i IntKind.i64)).den))) (Tree.ite (!!jumpsB (slotA l k.toNat).fst) (Tree.ite (!decide (jumpI l k < (0 : Int))) (Tree.ite (decide ((↑(List.length l) : Int) ≤ jumpI l k)) (Tree.ret (AV.t [Part.one (Cell.v (Value.int IntKind.i64 (0 : Int))), Part.one (Cell.v (Value.bool false))], [])) (Tree.ret (AV.t [Part.one (Cell.v (Value.int IntKind.i64 (jumpI l k))), Part.one (Cell.v (Value.bool true))], []))) (Tree.ret (AV.t [Part.one (Cell.v (Value.int IntKind.i64 (0 : Int))), Part.one (Cell.v (Value.bool false))], []))) (Tree.ret (AV.t [Part.one (Cell.v (Value.int IntKind.i64 (0 : Int))), Part.one (Cell.v (Value.bool false))], []))) Tree.fail) (Tree.ite (!!namesB (slotA l k.toNat)) (Tree.ite (!decide (callI l k < (0 : Int))) (Tree.ite (decide ((↑(List.length l) : Int) ≤ callI l k)) (Tree.ret (AV.t [Part.one (Cell.v (Value.int IntKind.i64 (0 : Int))), Part.one (Cell.v (Value.bool false))], [])) (Tree.ret (AV.t [Part.one (Cell.v (Value.int IntKind.i64 (callI l k))), Part.one (Cell.v (Value.bool true))], []))) (Tree.ret (AV.t [Part.one (Cell.v (Value.int IntKind.i64 (0 : Int))), Part.one (Cell.v (Value.bool false))], []))) (Tree.ret (AV.t [Part.one (Cell.v (Value.int IntKind.i64 (0 : Int))), Part.one (Cell.v (Value.bool false))], [])))) Tree.fail)) Tree.fail) (Tree.ret (AV.t [Part.one (Cell.v (Value.int IntKind.i64 (0 : Int))), Part.one (Cell.v (Value.bool false))], []))) (Tree.ret (AV.t [Part.one (Cell.v (Value.int IntKind.i64 (0 : Int))), Part.one (Cell.v (Value.bool false))], []))
noncomputable def F_target : denAs [.c (.d insT), .c (.i .i64)] → denObs [] → Tree (AV × List Ob) := fun x y => match x, y with
  | (l, k, ()), () => targetT l k
theorem ev_target : ∀ a, (evalFnL Try.prog (lk L_sbs) 20 noL Try.f40 (Try.f40.body.getD .skip) [] (encAs [.c (.d insT), .c (.i .i64)] (ea_target a)) (encOs [] (eo_target a))).run = (E_target a).run := by
  rintro ⟨l, k⟩
  kernel_rfl
theorem fe_target : ∀ a y, (F_target (ea_target a) (eo_target a)).run = some y → (E_target a).run = some y := by
  rintro ⟨l, k⟩ y h
  rw [← h]
  change _ = (targetT l k).run
  dsimp only [E_target]
  unfold targetT targetB
  by_cases g1 : k < 0
  · refine (goFn g1).trans (Eq.trans ?_ (goF (by rw [decide_eq_true g1]; rfl)).symm); rfl
  refine (goTn g1).trans ?_
  rw [decide_eq_false g1]
  by_cases g2 : (l.length : Int) ≤ k
  · refine (goFn g2).trans (Eq.trans ?_ (goF (by rw [decide_eq_true g2]; rfl)).symm); rfl
  refine (goTn g2).trans ?_
  rw [decide_eq_false g2, goTa ⟨by omega, by omega⟩]
  rw [decP]
  rotate_left
  · exact ⟨by omega, by omega⟩
  unfold targetI
  simp only [slotA]
  generalize B_known (l.getD k.toNat noIns).1 (l.getD k.toNat noIns).2.1 (l.getD k.toNat noIns).2.2.1 (l.getD k.toNat noIns).2.2.2.1 (l.getD k.toNat noIns).2.2.2.2.1 = kn
  generalize namesB (l.getD k.toNat noIns) = nm
  generalize jumpsB (l.getD k.toNat noIns).1 = jp
  cases kn
  · rfl
  cases nm
  · cases jp
    · rfl
    · simp only [cond_false, cond_true]
      generalize decide (jumpI l k < 0) = c1
      generalize decide ((l.length : Int) ≤ jumpI l k) = c2
      cases c1 <;> cases c2 <;> rfl
  · simp only [cond_false, cond_true]
    generalize decide (callI l k < 0) = c1
    generalize decide ((l.length : Int) ≤ callI l k) = c2
    cases c1 <;> cases c2 <;> rfl
theorem ok_target : SummOk Kn Try.prog 40 (sumT [.dp insT, .any] false [.c (.d insT), .c (.i .i64)] [] F_target) := sumT_view tok_sbs Try.checked.mixed Try.func40 (by kernel_rfl) (by rfl) 20 [] ea_target eo_target
  (by rintro ⟨l, k, ⟨⟩⟩ ⟨⟩; exact ⟨(l, k), rfl, rfl⟩) noL 0 (by rintro ⟨⟩; rfl) (noL_ok _ _ _ _ _ _) E_target ev_target fe_target
noncomputable def L_target : List (Nat × Summ) := (40, (sumT [.dp insT, .any] false [.c (.d insT), .c (.i .i64)] [] F_target)) :: L_sbs
theorem tok_target : TOk Kn Try.prog (lk L_target) := lk_cons ok_target tok_sbs

def ea_fjmp : (BitVec 8) × (BitVec 8) × (BitVec 8) × Int × Int → denAs [insS] := fun ⟨o, d, s, f, n⟩ => ((o, d, s, f, n, ()), ())
def eo_fjmp : (BitVec 8) × (BitVec 8) × (BitVec 8) × Int × Int → denObs [] := fun ⟨o, d, s, f, n⟩ => ()
noncomputable def E_fjmp : (BitVec 8) × (BitVec 8) × (BitVec 8) × Int × Int → Tree (AV × List Ob) := fun ⟨o, d, s, f, n⟩ => 
Tree.ite (!o &&& BitVec.ofInt (8 : Nat) (7 : Int) == BitVec.ofInt (8 : Nat) (5 : Int)) (Tree.ite (o &&& BitVec.ofInt (8 : Nat) (7 : Int) == BitVec.ofInt (8 : Nat) (6 : Int)) (Tree.ite (o != BitVec.ofInt (8 : Nat) (133 : Int)) (Tree.ret (AV.p (Part.one (Cell.v (Value.bool (o != BitVec.ofInt (8 : Nat) (149 : Int))))), [])) (Tree.ret (AV.p (Part.one (Cell.v (Value.bool false))), []))) (Tree.ret (AV.p (Part.one (Cell.v (Value.bool false))), []))) (Tree.ite (o != BitVec.ofInt (8 : Nat) (133 : Int)) (Tree.ret (AV.p (Part.one (Cell.v (Value.bool (o != BitVec.ofInt (8 : Nat) (149 : Int))))), [])) (Tree.ret (AV.p (Part.one (Cell.v (Value.bool false))), [])))
noncomputable def F_fjmp : denAs [insS] → denObs [] → Tree (AV × List Ob) := fun x y => match x, y with
  | ((o, d, s, f, n, ()), ()), () => .ret (AV.b (jmpB o), [])
theorem ev_fjmp : ∀ a, (evalFnL Try.prog (lk L_target) 30 noL Try.f16 (Try.f16.body.getD .skip) [] (encAs [insS] (ea_fjmp a)) (encOs [] (eo_fjmp a))).run = (E_fjmp a).run := by
  rintro ⟨o, d, s, f, n⟩
  kernel_rfl
theorem fe_fjmp : ∀ a y, (F_fjmp (ea_fjmp a) (eo_fjmp a)).run = some y → (E_fjmp a).run = some y := by
  rintro ⟨o, d, s, f, n⟩ y h
  rw [← h]
  change _ = some (AV.b (jmpB o), [])
  dsimp only [E_fjmp]
  unfold jmpB bne
  cases o &&& BitVec.ofInt 8 7 == BitVec.ofInt 8 5 <;> cases o &&& BitVec.ofInt 8 7 == BitVec.ofInt 8 6 <;> cases o == BitVec.ofInt 8 133 <;> rfl
theorem ok_fjmp : SummOk Kn Try.prog 16 (sumT [.any] false [insS] [] F_fjmp) := sumT_view tok_target Try.checked.mixed Try.func16 (by kernel_rfl) (by rfl) 30 [] ea_fjmp eo_fjmp
  (by rintro ⟨⟨o, d, s, f, n, ⟨⟩⟩, ⟨⟩⟩ ⟨⟩; exact ⟨(o, d, s, f, n), rfl, rfl⟩) noL 0 (by rintro ⟨⟩; rfl) (noL_ok _ _ _ _ _ _) E_fjmp ev_fjmp fe_fjmp
noncomputable def L_fjmp : List (Nat × Summ) := (16, (sumT [.any] false [insS] [] F_fjmp)) :: L_target
theorem tok_fjmp : TOk Kn Try.prog (lk L_fjmp) := lk_cons ok_fjmp tok_target

def ea_next : Slots × Int → denAs [.c (.d insT), .c (.i .i64)] := fun ⟨l, k⟩ => (l, k, ())
def eo_next : Slots × Int → denObs [] := fun ⟨l, k⟩ => ()
noncomputable def E_next : Slots × Int → Tree (AV × List Ob) := fun ⟨l, k⟩ => 
Tree.ite (decide ((0 : Int) ≤ k) && decide (k < (↑(List.length l) : Int))) (Tree.ite ((List.getD l k.toNat noIns).fst == BitVec.ofInt (8 : Nat) (149 : Int)) (Tree.ret (AV.p (Part.one (Cell.h (0 : Nat))), [Ob.row intsT []])) (Tree.ite ((List.getD l k.toNat noIns).fst == BitVec.ofInt (8 : Nat) (24 : Int)) (Tree.ret (AV.p (Part.one (Cell.h (0 : Nat))), [Ob.row intsT [(IntKind.i64.wrap (k + (2 : Int)), ())]])) (Tree.ite (!jmpB (List.getD l k.toNat noIns).fst) (Tree.ret (AV.p (Part.one (Cell.h (0 : Nat))), [Ob.row intsT [(IntKind.i64.wrap (k + (1 : Int)), ())]])) (Tree.ite (!(List.getD l k.toNat noIns).fst == BitVec.ofInt (8 : Nat) (5 : Int)) (Tree.ite (IntKind.i64.wrap (IntKind.i64.wrap (k + (1 : Int)) + IntKind.i64.wrap (List.getD l k.toNat noIns).snd.snd.snd.fst) == IntKind.i64.wrap (k + (1 : Int))) (Tree.ret (AV.p (Part.one (Cell.h (0 : Nat))), [Ob.row intsT [(IntKind.i64.wrap (IntKind.i64.wrap (k + (1 : Int)) + IntKind.i64.wrap (List.getD l k.toNat noIns).snd.snd.snd.fst), ())]])) (Tree.ret (AV.p (Part.one (Cell.h (0 : Nat))), [Ob.row intsT [(IntKind.i64.wrap (k + (1 : Int)), ()), (IntKind.i64.wrap (IntKind.i64.wrap (k + (1 : Int)) + IntKind.i64.wrap (List.getD l k.toNat noIns).snd.snd.snd.fst), ())]]))) (Tree.ret (AV.p (Part.one (Cell.h (0 : Nat))), [Ob.row intsT [(IntKind.i64.wrap (IntKind.i64.wrap (k + (1 : Int)) + IntKind.i64.wrap (List.getD l k.toNat noIns).snd.snd.snd.fst), ())]])))))) Tree.fail
noncomputable def F_next : denAs [.c (.d insT), .c (.i .i64)] → denObs [] → Tree (AV × List Ob) := fun x y => match x, y with
  | (l, k, ()), () => ckP (0 ≤ k ∧ k < l.length) (.ret (AV.c (.h 0), [.row intsT (nextL l k)]))
theorem ev_next : ∀ a, (evalFnL Try.prog (lk L_fjmp) 30 noL Try.f18 (Try.f18.body.getD .skip) [(0, intsT)] (encAs [.c (.d insT), .c (.i .i64)] (ea_next a)) (encOs [] (eo_next a))).run = (E_next a).run := by
  rintro ⟨l, k⟩
  kernel_rfl
theorem fe_next : ∀ a y, (F_next (ea_next a) (eo_next a)).run = some y → (E_next a).run = some y := by
  rintro ⟨l, k⟩ y h
  obtain ⟨⟨h1, h2⟩, h⟩ := ckP_run h
  change 0 ≤ k at h1
  change k < (l.length : Int) at h2
  rw [← h]
  change _ = some (AV.c (.h 0), [Ob.row intsT (nextL l k)])
  dsimp only [E_next]
  rw [goTa ⟨h1, h2⟩]
  unfold nextL toI jumpI goI
  simp only [opA, slotA]
  cases (l.getD k.toNat noIns).1 == BitVec.ofInt 8 149
  · cases (l.getD k.toNat noIns).1 == BitVec.ofInt 8 24
    · cases jmpB (l.getD k.toNat noIns).1
      · rfl
      · cases (l.getD k.toNat noIns).1 == BitVec.ofInt 8 5
        · generalize (IntKind.i64.wrap (IntKind.i64.wrap (k + 1) + IntKind.i64.wrap (l.getD k.toNat noIns).2.2.2.1) == IntKind.i64.wrap (k + 1)) = c
          cases c <;> rfl
        · rfl
    · rfl
  · rfl
theorem ok_next : SummOk Kn Try.prog 18 (sumT [.dp insT, .any] false [.c (.d insT), .c (.i .i64)] [] F_next) := sumT_view tok_fjmp Try.checked.mixed Try.func18 (by kernel_rfl) (by rfl) 30 [(0, intsT)] ea_next eo_next
  (by rintro ⟨l, k, ⟨⟩⟩ ⟨⟩; exact ⟨(l, k), rfl, rfl⟩) noL 0 (by rintro ⟨⟩; rfl) (noL_ok _ _ _ _ _ _) E_next ev_next fe_next
noncomputable def L_next : List (Nat × Summ) := (18, (sumT [.dp insT, .any] false [.c (.d insT), .c (.i .i64)] [] F_next)) :: L_fjmp
theorem tok_next : TOk Kn Try.prog (lk L_next) := lk_cons ok_next tok_fjmp

def ea_names : Slots × Int → denAs [.c (.d insT), .c (.i .i64)] := fun ⟨l, k⟩ => (l, k, ())
def eo_names : Slots × Int → denObs [] := fun ⟨l, k⟩ => ()
noncomputable def E_names : Slots × Int → Tree (AV × List Ob) := fun ⟨l, k⟩ => 
Tree.ite (decide ((0 : Int) ≤ k) && decide (k < (↑(List.length l) : Int))) (Tree.ite (jmpB (List.getD l k.toNat noIns).fst) (Tree.ret (AV.t [Part.one (Cell.v (Value.int IntKind.i64 (0 : Int))), Part.one (Cell.v (Value.bool false))], [])) (Tree.ite (targetB l k) (Tree.ret (AV.t [Part.one (Cell.v (Value.int IntKind.i64 (targetI l k))), Part.one (Cell.v (Value.bool true))], [])) (Tree.ret (AV.t [Part.one (Cell.v (Value.int IntKind.i64 (0 : Int))), Part.one (Cell.v (Value.bool false))], [])))) Tree.fail
noncomputable def F_names : denAs [.c (.d insT), .c (.i .i64)] → denObs [] → Tree (AV × List Ob) := fun x y => match x, y with
  | (l, k, ()), () => ckP (0 ≤ k ∧ k < l.length) (namesT l k)
theorem ev_names : ∀ a, (evalFnL Try.prog (lk L_next) 30 noL Try.f29 (Try.f29.body.getD .skip) [] (encAs [.c (.d insT), .c (.i .i64)] (ea_names a)) (encOs [] (eo_names a))).run = (E_names a).run := by
  rintro ⟨l, k⟩
  kernel_rfl
theorem fe_names : ∀ a y, (F_names (ea_names a) (eo_names a)).run = some y → (E_names a).run = some y := by
  rintro ⟨l, k⟩ y h
  obtain ⟨⟨h1, h2⟩, h⟩ := ckP_run h
  change 0 ≤ k at h1
  change k < (l.length : Int) at h2
  rw [← h]
  change _ = (namesT l k).run
  dsimp only [E_names]
  rw [goTa ⟨h1, h2⟩]
  unfold namesT namesV
  simp only [opA]
  cases jmpB (l.getD k.toNat noIns).1 <;> cases targetB l k <;> rfl
theorem ok_names : SummOk Kn Try.prog 29 (sumT [.dp insT, .any] false [.c (.d insT), .c (.i .i64)] [] F_names) := sumT_view tok_next Try.checked.mixed Try.func29 (by kernel_rfl) (by rfl) 30 [] ea_names eo_names
  (by rintro ⟨l, k, ⟨⟩⟩ ⟨⟩; exact ⟨(l, k), rfl, rfl⟩) noL 0 (by rintro ⟨⟩; rfl) (noL_ok _ _ _ _ _ _) E_names ev_names fe_names
noncomputable def L_names : List (Nat × Summ) := (29, (sumT [.dp insT, .any] false [.c (.d insT), .c (.i .i64)] [] F_names)) :: L_next
theorem tok_names : TOk Kn Try.prog (lk L_names) := lk_cons ok_names tok_next

def ea_Next : Slots × Int → denAs [.c (.d insT), .c (.i .i64)] := fun ⟨l, k⟩ => (l, k, ())
def eo_Next : Slots × Int → denObs [] := fun ⟨l, k⟩ => ()
noncomputable def E_Next : Slots × Int → Tree (AV × List Ob) := fun ⟨l, k⟩ => 
Tree.ite (decC (List.length l ≤ (140737488355328 : Nat))) (Tree.ite ((chk l).snd != (0 : Int)) (Tree.ret (AV.t [Part.one (Cell.h (0 : Nat)), Part.one (Cell.v (Value.int IntKind.i64 (chk l).snd))], [Ob.row intsT []])) (Tree.ite (!decide (k < (0 : Int))) (Tree.ite (!decide ((↑(List.length l) : Int) ≤ k)) (Tree.ite (decC (List.length l ≤ (140737488355328 : Nat))) (Tree.ite (decide ((0 : Int) ≤ k) && decide (k < (↑(List.length (secs l)) : Int))) (Tree.ite (List.getD (secs l) k.toNat (false, ())).fst (Tree.ret (AV.t [Part.one (Cell.h (0 : Nat)), Part.one (Cell.v (Value.int IntKind.i64 (150 : Int)))], [Ob.row intsT []])) (Tree.ite (decC ((0 : Int) ≤ k ∧ k < (↑(List.length l) : (ShA.c (ShC.i IntKind.i64)).den))) (Tree.ret (AV.t [Part.one (Cell.h (0 : Nat)), Part.one (Cell.v (Value.int IntKind.i64 (0 : Int)))], [Ob.row intsT (nextL l k)])) Tree.fail)) Tree.fail) Tree.fail) (Tree.ret (AV.t [Part.one (Cell.h (0 : Nat)), Part.one (Cell.v (Value.int IntKind.i64 (150 : Int)))], [Ob.row intsT []]))) (Tree.ret (AV.t [Part.one (Cell.h (0 : Nat)), Part.one (Cell.v (Value.int IntKind.i64 (150 : Int)))], [Ob.row intsT []])))) Tree.fail
noncomputable def F_Next : denAs [.c (.d insT), .c (.i .i64)] → denObs [] → Tree (AV × List Ob) := fun x y => match x, y with
  | (l, k, ()), () => ckP (l.length ≤ 140737488355328) (nextsT l k)
theorem ev_Next : ∀ a, (evalFnL Try.prog (lk L_names) 30 noL Try.f8 (Try.f8.body.getD .skip) [(0, intsT)] (encAs [.c (.d insT), .c (.i .i64)] (ea_Next a)) (encOs [] (eo_Next a))).run = (E_Next a).run := by
  rintro ⟨l, k⟩
  kernel_rfl
theorem fe_Next : ∀ a y, (F_Next (ea_Next a) (eo_Next a)).run = some y → (E_Next a).run = some y := by
  rintro ⟨l, k⟩ y h
  obtain ⟨h1, h⟩ := ckP_run h
  change l.length ≤ 140737488355328 at h1
  rw [← h]
  change _ = (nextsT l k).run
  dsimp only [E_Next]
  rw [goT (decP h1)]
  unfold nextsT
  by_cases g : (chk l).2 = 0
  · rw [goFne g, goTe g]
    by_cases g1 : k < 0
    · rw [goFn g1, goF (by rw [decide_eq_false (by omega)]; rfl)]; rfl
    rw [goTn g1]
    by_cases g2 : (l.length : Int) ≤ k
    · rw [goFn g2, goF (by rw [decide_eq_false (p := k < (l.length : Int)) (by omega), Bool.false_and, Bool.and_false])]; rfl
    rw [goTn g2, goT (decP h1), goTa ⟨by omega, by rw [secs_len]; omega⟩, secs_get (by omega), decide_eq_true (p := 0 ≤ k) (by omega), decide_eq_true (p := k < (l.length : Int)) (by omega)]
    cases secB l k.toNat with
    | true => rfl
    | false => exact (goF rfl).trans ((goT (decP ⟨by omega, by omega⟩)).trans rfl)
  · rw [goTne g, goFe g]; rfl
theorem ok_Next : SummOk Kn Try.prog 8 (sumT [.dp insT, .any] false [.c (.d insT), .c (.i .i64)] [] F_Next) := sumT_view tok_names Try.checked.mixed Try.func8 (by kernel_rfl) (by rfl) 30 [(0, intsT)] ea_Next eo_Next
  (by rintro ⟨l, k, ⟨⟩⟩ ⟨⟩; exact ⟨(l, k), rfl, rfl⟩) noL 0 (by rintro ⟨⟩; rfl) (noL_ok _ _ _ _ _ _) E_Next ev_Next fe_Next
noncomputable def L_Next : List (Nat × Summ) := (8, (sumT [.dp insT, .any] false [.c (.d insT), .c (.i .i64)] [] F_Next)) :: L_names
theorem tok_Next : TOk Kn Try.prog (lk L_Next) := lk_cons ok_Next tok_names

noncomputable abbrev c_rch : Code := Try.f14.body.getD .skip
def p_rch : List Nat := [0, 0, 1, 1, 1, 0, 1]
def sh_rch : Shape := ⟨[(0, .c (.d insT)), (3, .c (.h 0)), (4, .c (.h 1))], [.row boolsT, .row intsT]⟩
@[reducible] def A_rch : Type := Slots × Bools × Ints
def e_rch : A_rch → sh_rch.den := fun ⟨l, o, w⟩ => ((l, (), (), ()), (o, w, ()))
def v_rch : sh_rch.den → A_rch := fun d => match d with
  | ((l, (), (), ()), (o, w, ())) => (l, o, w)
def I_rch : A_rch → Prop := fun ⟨l, o, w⟩ => wayI l o w
noncomputable def G_rch : A_rch → Tree (Ex × St) := fun ⟨l, o, w⟩ => .ret (.exit 0, ⟨[(3, .p (.one (.h 0)))], [(0, .row boolsT (dfs (bothL l) (todo o w) o w))], 1⟩)
noncomputable def orc_rch : Orc := ⟨sh_rch, [(4, intsT)], [3], [], fun d => ckP (I_rch (v_rch d)) (G_rch (v_rch d))⟩
noncomputable def LT_rch : LT := oneL p_rch orc_rch (noL)
noncomputable def T_rch : Slots × Bools × Ints → Tree (A_rch ⊕ (Ex × St)) := fun ⟨l, o, w⟩ => 
Tree.ite (decide ((0 : Int) < (↑(List.length w) : Int))) (Tree.ite (decide ((0 : Int) ≤ IntKind.i64.wrap ((↑(List.length w) : Int) - (1 : Int))) && decide (IntKind.i64.wrap ((↑(List.length w) : Int) - (1 : Int)) < (↑(List.length w) : Int))) (Tree.ite (decide ((0 : Int) ≤ IntKind.i64.wrap ((↑(List.length w) : Int) - (1 : Int))) && decide (IntKind.i64.wrap ((↑(List.length w) : Int) - (1 : Int)) ≤ (↑(List.length w) : Int))) (Tree.ite (decide ((0 : Int) ≤ (List.getD w (IntKind.i64.wrap ((↑(List.length w) : Int) - (1 : Int))).toNat ((0 : Int), ())).fst) && decide ((List.getD w (IntKind.i64.wrap ((↑(List.length w) : Int) - (1 : Int))).toNat ((0 : Int), ())).fst < (↑(List.length o) : Int))) (Tree.ite (List.getD o (Int.toNat (List.getD w (IntKind.i64.wrap ((↑(List.length w) : Int) - (1 : Int))).toNat ((0 : Int), ())).fst) (false, ())).fst (Tree.ite (((0 : Nat) + ((IntKind.i64.wrap ((↑(List.length w) : Int) - (1 : Int))).toNat - (0 : Nat))).ble (List.length w) && (true && true)) (Tree.ret (Sum.inl (l, o, List.take ((0 : Nat) + ((IntKind.i64.wrap ((↑(List.length w) : Int) - (1 : Int))).toNat - (0 : Nat)) - (0 : Nat)) (List.drop (0 : Nat) w)))) Tree.fail) (Tree.ite (decide ((0 : Int) ≤ (List.getD w (IntKind.i64.wrap ((↑(List.length w) : Int) - (1 : Int))).toNat ((0 : Int), ())).fst) && decide ((List.getD w (IntKind.i64.wrap ((↑(List.length w) : Int) - (1 : Int))).toNat ((0 : Int), ())).fst < (↑(List.length o) : Int))) (Tree.ite (decC ((0 : Int) ≤ (List.getD w (IntKind.i64.wrap ((↑(List.length w) : Int) - (1 : Int))).toNat ((0 : Int), ())).fst ∧ (List.getD w (IntKind.i64.wrap ((↑(List.length w) : Int) - (1 : Int))).toNat ((0 : Int), ())).fst < (↑(List.length l) : (ShA.c (ShC.i IntKind.i64)).den))) (Tree.ite (((0 : Nat) + ((IntKind.i64.wrap ((↑(List.length w) : Int) - (1 : Int))).toNat - (0 : Nat))).ble (List.length w) && (true && true)) (Tree.ite (bytesOk ((List.take ((0 : Nat) + ((IntKind.i64.wrap ((↑(List.length w) : Int) - (1 : Int))).toNat - (0 : Nat)) - (0 : Nat)) (List.drop (0 : Nat) w)).length + List.length (nextL l (List.getD w (IntKind.i64.wrap ((↑(List.length w) : Int) - (1 : Int))).toNat ((0 : Int), ())).fst)) (8 : Nat) && ((List.take ((0 : Nat) + ((IntKind.i64.wrap ((↑(List.length w) : Int) - (1 : Int))).toNat - (0 : Nat)) - (0 : Nat)) (List.drop (0 : Nat) w)).length + List.length (nextL l (List.getD w (IntKind.i64.wrap ((↑(List.length w) : Int) - (1 : Int))).toNat ((0 : Int), ())).fst)).ble (140737488355328 : Nat)) (Tree.ite (decC ((0 : Int) ≤ (List.getD w (IntKind.i64.wrap ((↑(List.length w) : Int) - (1 : Int))).toNat ((0 : Int), ())).fst ∧ (List.getD w (IntKind.i64.wrap ((↑(List.length w) : Int) - (1 : Int))).toNat ((0 : Int), ())).fst < (↑(List.length l) : (ShA.c (ShC.i IntKind.i64)).den))) (Tree.ite (namesV l (List.getD w (IntKind.i64.wrap ((↑(List.length w) : Int) - (1 : Int))).toNat ((0 : Int), ())).fst) (Tree.ite (bytesOk ((List.take ((0 : Nat) + ((IntKind.i64.wrap ((↑(List.length w) : Int) - (1 : Int))).toNat - (0 : Nat)) - (0 : Nat)) (List.drop (0 : Nat) w) ++ nextL l (List.getD w (IntKind.i64.wrap ((↑(List.length w) : Int) - (1 : Int))).toNat ((0 : Int), ())).fst).length + (1 : Nat)) (8 : Nat) && ((List.take ((0 : Nat) + ((IntKind.i64.wrap ((↑(List.length w) : Int) - (1 : Int))).toNat - (0 : Nat)) - (0 : Nat)) (List.drop (0 : Nat) w) ++ nextL l (List.getD w (IntKind.i64.wrap ((↑(List.length w) : Int) - (1 : Int))).toNat ((0 : Int), ())).fst).length + (1 : Nat)).ble (140737488355328 : Nat)) (Tree.ret (Sum.inl (l, List.set o (Int.toNat (List.getD w (IntKind.i64.wrap ((↑(List.length w) : Int) - (1 : Int))).toNat ((0 : Int), ())).fst) (true, (List.getD o (Int.toNat (List.getD w (IntKind.i64.wrap ((↑(List.length w) : Int) - (1 : Int))).toNat ((0 : Int), ())).fst) (false, ())).snd), List.take ((0 : Nat) + ((IntKind.i64.wrap ((↑(List.length w) : Int) - (1 : Int))).toNat - (0 : Nat)) - (0 : Nat)) (List.drop (0 : Nat) w) ++ nextL l (List.getD w (IntKind.i64.wrap ((↑(List.length w) : Int) - (1 : Int))).toNat ((0 : Int), ())).fst ++ [(targetI l (List.getD w (IntKind.i64.wrap ((↑(List.length w) : Int) - (1 : Int))).toNat ((0 : Int), ())).fst, ())]))) Tree.fail) (Tree.ret (Sum.inl (l, List.set o (Int.toNat (List.getD w (IntKind.i64.wrap ((↑(List.length w) : Int) - (1 : Int))).toNat ((0 : Int), ())).fst) (true, (List.getD o (Int.toNat (List.getD w (IntKind.i64.wrap ((↑(List.length w) : Int) - (1 : Int))).toNat ((0 : Int), ())).fst) (false, ())).snd), List.take ((0 : Nat) + ((IntKind.i64.wrap ((↑(List.length w) : Int) - (1 : Int))).toNat - (0 : Nat)) - (0 : Nat)) (List.drop (0 : Nat) w) ++ nextL l (List.getD w (IntKind.i64.wrap ((↑(List.length w) : Int) - (1 : Int))).toNat ((0 : Int), ())).fst)))) Tree.fail) Tree.fail) Tree.fail) Tree.fail) Tree.fail)) Tree.fail) Tree.fail) Tree.fail) (Tree.ret (Sum.inr (Ex.exit (0 : Nat), { env := [((3 : Nat), AV.p (Part.one (Cell.h (0 : Nat))))], hp := [((0 : Nat), Ob.row boolsT o)], nx := (1 : Nat) })))
theorem turn_rch : ∀ a : A_rch, (turnT 0 orc_rch (evalCode Try.prog (lk L_Next) Try.f14.ntmps 0 30 LT_rch (bodyAt c_rch p_rch) false (0 :: p_rch)) (sh_rch.enc (e_rch a))).run = ((T_rch a).bind fun s => .ret (turnV sh_rch e_rch s)).run := by
  rintro ⟨l, o, w⟩
  kernel_rfl
theorem chk_fine {l : Slots} (h : (chk l).2 = 0) : ¬ (l.length < 1 ∨ 4096 < l.length) ∧ firstBad l (secs l) = none ∧ (∀ j, j < (froms l (secs l)).length → endBad l (secs l) (partOf (subsL l (secs l)) j) = false) ∧
    (∀ j, j < (froms l (secs l)).length → ∀ k, fnA (froms l (secs l)) l.length j ≤ k → k < fnA (froms l (secs l)) l.length (j + 1) → leadBad l (secs l) (partOf (subsL l (secs l)) j) k = false) ∧ sbs l = (subsL l (secs l), 0, 0) := by
  unfold chk at h
  by_cases g0 : l.length < 1 ∨ 4096 < l.length
  · rw [if_pos g0] at h; cases h
  rw [if_neg g0] at h
  cases g1 : firstBad l (secs l) with
  | some k => rw [g1] at h; exact absurd h (bad_some g1).2.1
  | none =>
    rw [g1] at h
    dsimp only at h
    by_cases g2 : 64 < (froms l (secs l)).length
    · rw [if_pos g2] at h; cases h
    rw [if_neg g2] at h
    cases g3 : endedI l (secs l) (subsL l (secs l)) with
    | some z => rw [g3] at h; cases h
    | none =>
      rw [g3] at h
      dsimp only at h
      cases g4 : leadsI l (secs l) (subsL l (secs l)) with
      | some k => rw [g4] at h; cases h
      | none =>
        have hs : scan (fun j => endBad l (secs l) (partOf (subsL l (secs l)) j)) (subsL l (secs l)).length 0 = none := by
          unfold endedI at g3
          cases c : scan (fun j => endBad l (secs l) (partOf (subsL l (secs l)) j)) (subsL l (secs l)).length 0 with
          | none => rfl
          | some j => rw [c] at g3; cases g3
        have hs2 := scan_is (p := fun j => endBad l (secs l) (partOf (subsL l (secs l)) j)) (n := (subsL l (secs l)).length) (k := 0)
        rw [hs] at hs2
        have hr : scan (refBad l (secs l) (subsL l (secs l))) l.length 0 = none := by rw [← g4]; exact (leads_ref (by omega)).symm
        have hr2 := scan_is (p := refBad l (secs l) (subsL l (secs l))) (n := l.length) (k := 0)
        rw [hr] at hr2
        refine ⟨g0, rfl, fun j hj => hs2 j (Nat.zero_le _) (by rw [subsL_len]; omega), fun j hj k k1 k2 => ?_, ?_⟩
        · rw [lead_ref (by omega) hj k1 k2]
          have := (fnA_up hj).2
          exact hr2 k (Nat.zero_le _) (by omega)
        · unfold sbs
          rw [if_neg g0, g1]
          dsimp only
          rw [if_neg g2, g3]
theorem known_jumps {o d s : BitVec 8} {f n : Int} (h : B_known o d s f n = true) : jmpB o = jumpsB o := by
  unfold B_known at h
  rw [tbB_bval] at h
  simp only [E_known, bval, bne] at h
  have hs : (s == BitVec.ofInt 8 0, s == BitVec.ofInt 8 1, s == BitVec.ofInt 8 4, s.ule (BitVec.ofInt 8 1)) ∈ ([(true, false, false, true), (false, true, false, true), (false, false, true, false), (false, false, false, false)] : List (Bool × Bool × Bool × Bool)) := by
    clear h; revert s; decide +kernel
  generalize (s == BitVec.ofInt 8 0) = s0 at *
  generalize (s == BitVec.ofInt 8 1) = s1 at *
  generalize (s == BitVec.ofInt 8 4) = s4 at *
  generalize s.ule (BitVec.ofInt 8 1) = u at *
  generalize (n == 0) = n0 at *
  generalize (n == 16) = n16 at *
  generalize (n == 32) = n32 at *
  generalize (n == 64) = n64 at *
  generalize (f == 0) = f0 at *
  generalize (d == BitVec.ofInt 8 0) = d0 at *
  clear s n f d
  revert f0 d0
  revert n0 n16 n32 n64
  revert s0 s1 s4 u
  revert o
  decide +kernel
/-- of a program that is well formed: what lies at a place -/
theorem place_facts {l : Slots} (h : goodL l) {k : Nat} (hl : k < l.length) (hk : secB l k = false) :
    B_known (slotA l k).1 (slotA l k).2.1 (slotA l k).2.2.1 (slotA l k).2.2.2.1 (slotA l k).2.2.2.2.1 = true ∧
    ((opA l k == BitVec.ofInt 8 24) = true → k + 2 < l.length ∧ secB l (k + 2) = false ∧ secB l (k + 1) = true) ∧ ((opA l k == BitVec.ofInt 8 24) = false → (opA l k == BitVec.ofInt 8 149) = false → (opA l k == BitVec.ofInt 8 5) = false → k + 1 < l.length) ∧
    ((opA l k == BitVec.ofInt 8 24) = false → secB l (k + 1) = false) ∧ (jumpsB (opA l k) = true → goodK l (jumpI l k)) ∧ (namesB (slotA l k) = true → goodK l (callI l k)) := by
  obtain ⟨h, _⟩ := h
  obtain ⟨g0, g1, g2, g3, _⟩ := chk_fine h
  have hz := fnA_zero (l := l) (b := secs l) (by omega)
  obtain ⟨j, hj, k1, k2⟩ := locate (f := fnA (froms l (secs l)) l.length) (m := (froms l (secs l)).length) (k := k) (by rw [hz.1]; exact Nat.zero_le _) (by rw [fnA_end (Nat.lt_irrefl _)]; exact hl)
  have hka : secA (secs l) (k : Int) = false := by rw [secA_nat hl]; exact hk
  obtain ⟨u1, u2⟩ := fnA_up hj
  obtain ⟨v0, _, _⟩ := subsL_last hj (good_targets g1) (secs0 l)
  have hb := g2 j hj
  have hlast : ∀ z : Int, lastI (secs l) (partOf (subsL l (secs l)) j) = z → (opA l z.toNat == BitVec.ofInt 8 149) = true ∨ (opA l z.toNat == BitVec.ofInt 8 5) = true := fun z hz => by
    unfold endBad at hb
    rw [hz] at hb
    generalize (opA l z.toNat == BitVec.ofInt 8 149) = a at *
    generalize (opA l z.toNat == BitVec.ofInt 8 5) = b at *
    cases a <;> cases b <;> first | exact .inl rfl | exact .inr rfl | cases hb
  have hend : k + 1 = fnA (froms l (secs l)) l.length (j + 1) → (opA l k == BitVec.ofInt 8 149) = true ∨ (opA l k == BitVec.ofInt 8 5) = true := fun e => by
    rw [← e, show (((k + 1 : Nat) : Int) - 1) = (k : Int) by omega, hka, if_neg (by simp)] at v0
    exact hlast _ v0
  refine ⟨(wrong_zero (good_all g1 hl hka)).1, fun ho => ?_, fun _ h1 h2 => ?_, fun ho => ?_, fun hjp => ?_, fun hn => ?_⟩
  · have n1 : k + 1 ≠ fnA (froms l (secs l)) l.length (j + 1) := fun e => by
      have hx : ∀ x : BitVec 8, (x == BitVec.ofInt 8 24) = true → ¬ ((x == BitVec.ofInt 8 149) = true ∨ (x == BitVec.ofInt 8 5) = true) := by decide +kernel
      exact hx _ ho (hend e)
    have hs : secB l (k + 1) = true := by unfold secB; rw [ho, hk]; rfl
    have n2 : k + 2 ≠ fnA (froms l (secs l)) l.length (j + 1) := fun e => by
      rw [← e, show (((k + 2 : Nat) : Int) - 1) = ((k + 1 : Nat) : Int) by omega, secA_nat (by omega), hs, if_pos rfl, show (((k + 2 : Nat) : Int) - 2) = (k : Int) by omega] at v0
      have hx : ∀ x : BitVec 8, (x == BitVec.ofInt 8 24) = true → ¬ ((x == BitVec.ofInt 8 149) = true ∨ (x == BitVec.ofInt 8 5) = true) := by decide +kernel
      exact hx _ ho (hlast _ v0)
    refine ⟨by omega, ?_, hs⟩
    show (_ && !secB l (k + 1)) = false
    rw [hs]; simp
  · have : k + 1 ≠ fnA (froms l (secs l)) l.length (j + 1) := fun e => by
      rcases hend e with e | e
      · rw [e] at h1; cases h1
      · rw [e] at h2; cases h2
    omega
  · show (opA l k == BitVec.ofInt 8 24 && _) = false
    rw [ho]; rfl
  · have hlb := g3 j hj k k1 k2
    unfold leadBad at hlb
    rw [hjp, hka, subsL_get hj] at hlb
    simp only [Bool.not_false, Bool.and_self, Bool.true_and, Bool.or_eq_false_iff, decide_eq_false_iff_not] at hlb
    obtain ⟨⟨l1, l2⟩, l3⟩ := hlb
    refine ⟨by omega, by omega, ?_⟩
    rw [secA_in (by omega)] at l3
    exact l3
  · have := good_targets g1 k hl hka hn
    refine ⟨by omega, this.2.1, ?_⟩
    rw [← secA_in (l := l) (by omega)]
    exact this.2.2
theorem goodK_of {l : Slots} {k : Int} {m : Nat} (e : k = (m : Int)) (h1 : m < l.length) (h2 : secB l m = false) : goodK l k := by
  subst e; exact ⟨by omega, by omega, h2⟩
theorem way_ok {l : Slots} (h : goodL l) : Keeps (bothL l) (goodK l) l.length where
  inn k hk := ⟨hk.1, by have := hk.1; have := hk.2.1; omega⟩
  few k hk := by
    unfold bothL nextL
    rw [List.length_append]
    have : ∀ (b : Bool) (x : Ints), x.length ≤ 2 → x.length + (bif b then [(targetI l k, ())] else [] : Ints).length ≤ 3 := fun b x hx => by
      cases b <;> simp <;> omega
    refine this _ _ ?_
    cases opA l k.toNat == BitVec.ofInt 8 149 <;> cases opA l k.toNat == BitVec.ofInt 8 24 <;> cases jmpB (opA l k.toNat) <;> cases (opA l k.toNat == BitVec.ofInt 8 5 || toI l k == IntKind.i64.wrap (k + 1)) <;> simp
  next k hk x hx := by
    obtain ⟨h1, h2, h3⟩ := hk
    have hl := h.2
    have hkn : ((k.toNat : Nat) : Int) = k := by omega
    obtain ⟨p0, p1, p2, p3, p4, p5⟩ := place_facts h (k := k.toNat) (by omega) h3
    have hjj := known_jumps p0
    change jmpB (opA l k.toNat) = jumpsB (opA l k.toNat) at hjj
    rw [hkn] at p4 p5
    unfold bothL at hx
    rcases List.mem_append.1 hx with hx | hx
    · unfold nextL at hx
      cases c1 : opA l k.toNat == BitVec.ofInt 8 149 with
      | true => rw [c1] at hx; cases hx
      | false =>
        cases c2 : opA l k.toNat == BitVec.ofInt 8 24 with
        | true =>
          rw [c1, c2] at hx
          simp only [cond_false, cond_true, List.mem_singleton] at hx
          subst hx
          obtain ⟨q1, q2, _⟩ := p1 c2
          dsimp only
          rw [wrap64 (n := k + 2) (by omega) (by omega)]
          exact goodK_of (m := k.toNat + 2) (by omega) q1 q2
        | false =>
          have hb : (opA l k.toNat == BitVec.ofInt 8 5) = false → goodK l (IntKind.i64.wrap (k + 1)) := fun c5 => by
            rw [wrap64 (n := k + 1) (by omega) (by omega)]
            exact goodK_of (m := k.toNat + 1) (by omega) (p2 c2 c1 c5) (p3 c2)
          cases c3 : jmpB (opA l k.toNat) with
          | false =>
            rw [c1, c2, c3] at hx
            simp only [cond_false, cond_true, Bool.not_false, List.mem_singleton] at hx
            subst hx
            refine hb ?_
            have hx2 : ∀ o : BitVec 8, jmpB o = false → (o == BitVec.ofInt 8 5) = false := by decide +kernel
            exact hx2 _ c3
          | true =>
            have hj := p4 (hjj ▸ c3)
            rw [c1, c2, c3] at hx
            cases c4 : (opA l k.toNat == BitVec.ofInt 8 5 || toI l k == IntKind.i64.wrap (k + 1)) with
            | true =>
              rw [c4] at hx
              simp only [cond_false, cond_true, Bool.not_true, List.mem_singleton] at hx
              subst hx; exact hj
            | false =>
              rw [c4] at hx
              simp only [cond_false, Bool.not_true, List.mem_cons, List.mem_singleton, List.not_mem_nil, or_false] at hx
              rcases hx with rfl | rfl
              · rw [Bool.or_eq_false_iff] at c4
                exact hb c4.1
              · exact hj
    · cases c : namesV l k with
      | false => rw [c] at hx; cases hx
      | true =>
        rw [c] at hx
        simp only [cond_true, List.mem_singleton] at hx
        subst hx
        unfold namesV at c
        rw [Bool.and_eq_true] at c
        obtain ⟨c1, c2⟩ := c
        have hnj : jumpsB (slotA l k.toNat).1 = false := by
          rw [← hjj]; simpa using c1
        have hn : namesB (slotA l k.toNat) = true := by
          unfold targetB at c2
          rw [hnj] at c2
          simp only [Bool.and_eq_true, Bool.or_false] at c2
          exact c2.2.2.2.1
        unfold targetI
        rw [hn]
        exact p5 hn
def μ_rch : A_rch → Nat := fun ⟨l, o, w⟩ => todo o w
theorem step_rch : ∀ a : A_rch, I_rch a → (∃ a', (T_rch a).run = some (.inl a') ∧ I_rch a' ∧ μ_rch a' < μ_rch a ∧ (G_rch a').run = (G_rch a).run) ∨ (∃ y, (T_rch a).run = some (.inr y) ∧ (G_rch a).run = some y ∧ ((∃ id, y.1 = .exit id) ∨ y.1 = .ret)) := by
  rintro ⟨l, o, w⟩ ⟨hg, ho, hw, hc⟩
  simp only [T_rch, Nat.zero_add, Nat.sub_zero, List.drop_zero]
  have W := way_ok hg
  have hl := hg.2
  by_cases h0 : w.length = 0
  · right
    rw [goFd (by omega)]
    refine ⟨_, rfl, ?_, .inl ⟨0, rfl⟩⟩
    simp only [G_rch, Tree.run]
    rw [dfs_nil _ _ h0]
  · left
    obtain ⟨⟨k1, k2, k3⟩, s1, s2, s3, s4⟩ := W.step ho hw h0
    have hK : ∀ z : Int × Unit, (w.getD (w.length - 1) z).1 = lastK w := fun z => by
      unfold lastK; rw [getD_any (by omega) z (0, ())]
    have ew : (IntKind.i64.wrap ((w.length : Int) - 1)).toNat = w.length - 1 := by rw [wrap64 (by omega) (by omega)]; omega
    have hs : (w.length - 1).ble w.length = true := Nat.ble_eq_true_of_le (by omega)
    rw [goTd (by omega)]
    simp only [ew, hK]
    rw [wrap64 (n := (w.length : Int) - 1) (by omega) (by omega), goTa ⟨by omega, by omega⟩, goTa ⟨by omega, by omega⟩, goTa ⟨k1, by omega⟩]
    have hmo : todo o w ≠ 0 := by unfold todo; omega
    obtain ⟨m, hm⟩ : ∃ m, todo o w = m + 1 := ⟨todo o w - 1, by omega⟩
    cases c : (o.getD (lastK w).toNat (false, ())).1 with
    | true =>
      rw [goT rfl, goT (by rw [hs]; rfl)]
      have hd := dfs_old (nx := bothL l) m h0 c
      have ht : todo o (w.take (w.length - 1)) + 1 = todo o w := by unfold todo; omega
      refine ⟨_, rfl, ⟨hg, ho, s1, by omega⟩, by simp only [μ_rch]; omega, ?_⟩
      simp only [G_rch, Tree.run]
      rw [hm, hd, show m = todo o (w.take (w.length - 1)) by omega]
    | false =>
      have hf := falses_set (o := o) (k := (lastK w).toNat) (by omega) c
      have hd := dfs_new (nx := bothL l) m h0 c
      have hb : bothL l (lastK w) = nextL l (lastK w) ++ bif namesV l (lastK w) then [(targetI l (lastK w), ())] else [] := rfl
      have hbl : (nextL l (lastK w)).length + (bif namesV l (lastK w) then [(targetI l (lastK w), ())] else [] : Ints).length ≤ 3 := by rw [← List.length_append, ← hb]; exact s4
      rw [goF rfl, goTa ⟨k1, by omega⟩, goT (decP ⟨k1, k2⟩), goT (by rw [hs]; rfl), goTb ⟨by omega, by omega⟩, goT (decP ⟨k1, k2⟩)]
      have fin : ∀ T : Tree (A_rch ⊕ (Ex × St)), T.run = some (.inl (l, o.set (lastK w).toNat (true, ()), w.take (w.length - 1) ++ bothL l (lastK w))) → (∃ a', T.run = some (.inl a') ∧ I_rch a' ∧ μ_rch a' < μ_rch (l, o, w) ∧ (G_rch a').run = (G_rch (l, o, w)).run) := fun T hT => by
        have ho' : (o.set (lastK w).toNat (true, ())).length = l.length := by rw [List.length_set]; exact ho
        have ht : todo (o.set (lastK w).toNat (true, ())) (w.take (w.length - 1) ++ bothL l (lastK w)) < todo o w := by
          unfold todo; rw [List.length_append]; omega
        refine ⟨_, hT, ⟨hg, ho', s3, by rw [List.length_append]; omega⟩, by simp only [μ_rch]; exact ht, ?_⟩
        simp only [G_rch, Tree.run]
        rw [hm, hd, dfs_fuel W _ m _ _ ho' s3 (Nat.le_refl _) (by omega)]
      cases cn : namesV l (lastK w) with
      | true =>
        rw [cn] at hbl hb
        simp only [cond_true, List.length_cons, List.length_nil] at hbl
        rw [goT rfl, goTb ⟨by rw [List.length_append]; omega, by rw [List.length_append]; omega⟩]
        refine fin _ ?_
        rw [hb, List.append_assoc]; rfl
      | false =>
        rw [cn] at hb
        rw [goF rfl]
        refine fin _ ?_
        rw [hb, cond_false, List.append_nil]; rfl
theorem lok_rch : LOk Try.prog (lk L_Next) Try.f14.ntmps 0 30 LT_rch c_rch := lok_view (noL_ok2 _ _ _ _ _ _ _) (by kernel_rfl) e_rch (by rintro ⟨⟨l, ⟨⟩, ⟨⟩, ⟨⟩⟩, ⟨o, w, ⟨⟩⟩⟩; exact ⟨(l, o, w), rfl⟩) T_rch turn_rch I_rch G_rch (by rintro ⟨l, o, w⟩; rfl) μ_rch step_rch
def ea_rch : Slots → denAs [.c (.d insT)] := fun l => (l, ())
def eo_rch : Slots → denObs [] := fun l => ()
noncomputable def E_rch : Slots → Tree (AV × List Ob) := fun l => 
Tree.ite (decide ((0 : Int) ≤ (↑(List.length l) : Int)) && (decide ((↑(List.length l) : Int) ≤ (↑(List.length l) : Int)) && (decide ((↑(List.length l) : Int) ≤ (140737488355328 : Int)) && bytesOk (↑(List.length l) : Int).toNat (1 : Nat)))) (Tree.ite (decC (wayI l (List.replicate (↑(List.length l) : Int).toNat (false, ())) [((0 : Int), ())])) (Tree.ret (AV.p (Part.one (Cell.h (0 : Nat))), [Ob.row boolsT (dfs (bothL l) (todo (List.replicate (↑(List.length l) : Int).toNat (false, ())) [((0 : Int), ())]) (List.replicate (↑(List.length l) : Int).toNat (false, ())) [((0 : Int), ())])])) Tree.fail) Tree.fail
noncomputable def F_rch : denAs [.c (.d insT)] → denObs [] → Tree (AV × List Ob) := fun x y => match x, y with
  | (l, ()), () => ckP (goodL l) (.ret (AV.c (.h 0), [.row boolsT (reachL l)]))
theorem ev_rch : ∀ a, (evalFnL Try.prog (lk L_Next) 30 LT_rch Try.f14 c_rch [] (encAs [.c (.d insT)] (ea_rch a)) (encOs [] (eo_rch a))).run = (E_rch a).run := by
  rintro l
  kernel_rfl
theorem fe_rch : ∀ a y, (F_rch (ea_rch a) (eo_rch a)).run = some y → (E_rch a).run = some y := by
  rintro l y h
  obtain ⟨h1, h⟩ := ckP_run h
  have hl := h1.2
  have h0 := chk_fine h1.1
  rw [← h]
  refine (goT ?_).trans ((goT (decP ⟨h1, by simp, ?_, ?_⟩)).trans rfl)
  · rw [bytesOk_dec, decide_eq_true (by omega), decide_eq_true (by omega), decide_eq_true (by omega), decide_eq_true (by omega)]; rfl
  · intro x hx
    rw [List.mem_singleton] at hx
    subst hx
    exact ⟨by decide, by have := h0.1; show (0 : Int) < _; omega, rfl⟩
  · show [((0 : Int), ())].length + 3 * falses (List.replicate l.length (false, ())) ≤ _
    rw [falses_new]; simp; omega
theorem ok_rch : SummOk Kn Try.prog 14 (sumT [.dp insT] false [.c (.d insT)] [] F_rch) := sumT_view tok_Next Try.checked.mixed Try.func14 (by kernel_rfl) (by rfl) 30 [] ea_rch eo_rch
  (by rintro ⟨l, ⟨⟩⟩ ⟨⟩; exact ⟨l, rfl, rfl⟩) LT_rch 0 (by rintro ⟨⟩; rfl) lok_rch E_rch ev_rch fe_rch
noncomputable def L_rch : List (Nat × Summ) := (14, (sumT [.dp insT] false [.c (.d insT)] [] F_rch)) :: L_Next
theorem tok_rch : TOk Kn Try.prog (lk L_rch) := lk_cons ok_rch tok_Next

def ea_Rch : Slots → denAs [.c (.d insT)] := fun l => (l, ())
def eo_Rch : Slots → denObs [] := fun l => ()
noncomputable def E_Rch : Slots → Tree (AV × List Ob) := fun l => 
Tree.ite (decC (List.length l ≤ (140737488355328 : Nat))) (Tree.ite ((chk l).snd != (0 : Int)) (Tree.ret (AV.t [Part.one (Cell.h (0 : Nat)), Part.one (Cell.v (Value.int IntKind.i64 (chk l).snd))], [Ob.row boolsT []])) (Tree.ite (decC (goodL l)) (Tree.ret (AV.t [Part.one (Cell.h (0 : Nat)), Part.one (Cell.v (Value.int IntKind.i64 (0 : Int)))], [Ob.row boolsT (reachL l)])) Tree.fail)) Tree.fail
noncomputable def F_Rch : denAs [.c (.d insT)] → denObs [] → Tree (AV × List Ob) := fun x y => match x, y with
  | (l, ()), () => ckP (l.length ≤ 1000) (reachT l)
theorem ev_Rch : ∀ a, (evalFnL Try.prog (lk L_rch) 30 noL Try.f6 (Try.f6.body.getD .skip) [(0, boolsT)] (encAs [.c (.d insT)] (ea_Rch a)) (encOs [] (eo_Rch a))).run = (E_Rch a).run := by
  rintro l
  kernel_rfl
theorem fe_Rch : ∀ a y, (F_Rch (ea_Rch a) (eo_Rch a)).run = some y → (E_Rch a).run = some y := by
  rintro l y h
  obtain ⟨h1, h⟩ := ckP_run h
  change l.length ≤ 1000 at h1
  rw [← h]
  change _ = (reachT l).run
  dsimp only [E_Rch]
  rw [goT (decP (by omega))]
  unfold reachT
  by_cases g : (chk l).2 = 0
  · rw [goFne g, goTe g]
    exact (goT (decP ⟨g, h1⟩)).trans rfl
  · rw [goTne g, goFe g]; rfl
theorem ok_Rch : SummOk Kn Try.prog 6 (sumT [.dp insT] false [.c (.d insT)] [] F_Rch) := sumT_view tok_rch Try.checked.mixed Try.func6 (by kernel_rfl) (by rfl) 30 [(0, boolsT)] ea_Rch eo_Rch
  (by rintro ⟨l, ⟨⟩⟩ ⟨⟩; exact ⟨l, rfl, rfl⟩) noL 0 (by rintro ⟨⟩; rfl) (noL_ok _ _ _ _ _ _) E_Rch ev_Rch fe_Rch
noncomputable def L_Rch : List (Nat × Summ) := (6, (sumT [.dp insT] false [.c (.d insT)] [] F_Rch)) :: L_rch
theorem tok_Rch : TOk Kn Try.prog (lk L_Rch) := lk_cons ok_Rch tok_rch

end Go.Proofs.Ytdbnbijillmlcaa
