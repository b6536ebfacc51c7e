/-
  Objects of rings and of plain programs; how many there may be (written by our own gen_obc.py).
-/
import Derived.Test.YtdkgeoadeljcpaaGreatObB
import Derived.Test.YtdkgeoadeljcpaaGreatObT
namespace Go.Proofs.YtdkgeoadeljcpaaGreat.obm
open Go Go.Sy Go.Sz Go.In Go.Ob Go.Proofs.YtdkgeoadeljcpaaGreat
set_option linter.unusedVariables false
set_option linter.unusedSimpArgs false
set_option linter.constructorNameAsVariable false
set_option maxRecDepth 100000

def F_chkm : denAs [.c (.d insT)] → denObs [] → Tree (AV × List Ob) := fun x y => match x, y with
  | (l, ()), () => .ite (isP l) (.ret (.t [.one (.v (.int .i64 0)), .one (.v (.int .i64 0))], [])) .fail
theorem we_chkm : ∀ x y r, (F_chkm x y).run = some r → (F_chk x y).run = some r := by
  rintro ⟨l, ⟨⟩⟩ ⟨⟩ r e
  cases hb : isP l with
  | false => exact absurd ((goF hb).symm.trans e) (by intro h; cases h)
  | true =>
    have he := (goT hb).symm.trans e
    have hl := isP_eq hb
    subst hl
    have hc : chk plainI = (0, 0) := by kernel_rfl
    change (ckP _ (.ret (.t [.one (.v (.int .i64 (chk plainI).1)), .one (.v (.int .i64 (chk plainI).2))], []))).run = some r
    rw [ckP_true (by decide), hc]
    exact he
theorem ok_chkm : SummOk Kn Tryz.prog 60 (sumT [.dp insT] false [.c (.d insT)] [] F_chkm) := weakT ok_chk we_chkm
noncomputable def L_chkm : List (Nat × Summ) := (60, (sumT [.dp insT] false [.c (.d insT)] [] F_chkm)) :: L_def
theorem tok_chkm : TOk Kn Tryz.prog (lk L_chkm) := lk_cons ok_chkm tok_def

def F_secm : denAs [.c (.d insT)] → denObs [] → Tree (AV × List Ob) := fun x y => match x, y with
  | (l, ()), () => .ite (isP l) (.ret (AV.c (.h 0), [.row boolsT [(false, ()), (false, ())]])) .fail
theorem we_secm : ∀ x y r, (F_secm x y).run = some r → (F_sec x y).run = some r := by
  rintro ⟨l, ⟨⟩⟩ ⟨⟩ r e
  cases hb : isP l with
  | false => exact absurd ((goF hb).symm.trans e) (by intro h; cases h)
  | true =>
    have he := (goT hb).symm.trans e
    have hl := isP_eq hb
    subst hl
    have hc : secs plainI = [(false, ()), (false, ())] := by kernel_rfl
    change (ckP _ (.ret (AV.c (.h 0), [.row boolsT (secs plainI)]))).run = some r
    rw [ckP_true (by decide), hc]
    exact he
theorem ok_secm : SummOk Kn Tryz.prog 96 (sumT [.dp insT] false [.c (.d insT)] [] F_secm) := weakT ok_sec we_secm
noncomputable def L_secm : List (Nat × Summ) := (96, (sumT [.dp insT] false [.c (.d insT)] [] F_secm)) :: L_chkm
theorem tok_secm : TOk Kn Tryz.prog (lk L_secm) := lk_cons ok_secm tok_chkm

def ea_namem : ByteArray → denAs [.c .s] := fun s => (s, ())
def eo_namem : ByteArray → denObs [] := fun s => ()
noncomputable def E_namem : ByteArray → Tree (AV × List Ob) := fun a => (evalFnL Tryz.prog (lk L_secm) 40 noL Tryz.f61 (Tryz.f61.body.getD .skip) [] (encAs [.c .s] (ea_namem a)) (encOs [] (eo_namem a)))
theorem ev_namem : ∀ a, (evalFnL Tryz.prog (lk L_secm) 40 noL Tryz.f61 (Tryz.f61.body.getD .skip) [] (encAs [.c .s] (ea_namem a)) (encOs [] (eo_namem a))).run = (E_namem a).run := by
  intro a; rfl
theorem nm_0 : (E_namem (nameN 0)).run = some (AV.b true, []) := by kernel_rfl
theorem nm_1 : (E_namem (nameN 1)).run = some (AV.b true, []) := by kernel_rfl
theorem nm_2 : (E_namem (nameN 2)).run = some (AV.b true, []) := by kernel_rfl
theorem nm_3 : (E_namem (nameN 3)).run = some (AV.b true, []) := by kernel_rfl
theorem nm_4 : (E_namem (nameN 4)).run = some (AV.b true, []) := by kernel_rfl
theorem nm_5 : (E_namem (nameN 5)).run = some (AV.b true, []) := by kernel_rfl
theorem nm_6 : (E_namem (nameN 6)).run = some (AV.b true, []) := by kernel_rfl
theorem nm_7 : (E_namem (nameN 7)).run = some (AV.b true, []) := by kernel_rfl
theorem nm_8 : (E_namem (nameN 8)).run = some (AV.b true, []) := by kernel_rfl
theorem nm_9 : (E_namem (nameN 9)).run = some (AV.b true, []) := by kernel_rfl
theorem nm_10 : (E_namem (nameN 10)).run = some (AV.b true, []) := by kernel_rfl
theorem nm_11 : (E_namem (nameN 11)).run = some (AV.b true, []) := by kernel_rfl
theorem nm_12 : (E_namem (nameN 12)).run = some (AV.b true, []) := by kernel_rfl
theorem nm_13 : (E_namem (nameN 13)).run = some (AV.b true, []) := by kernel_rfl
theorem nm_14 : (E_namem (nameN 14)).run = some (AV.b true, []) := by kernel_rfl
theorem nm_15 : (E_namem (nameN 15)).run = some (AV.b true, []) := by kernel_rfl
theorem nm_16 : (E_namem (nameN 16)).run = some (AV.b true, []) := by kernel_rfl
theorem nm_17 : (E_namem (nameN 17)).run = some (AV.b true, []) := by kernel_rfl
theorem nm_18 : (E_namem (nameN 18)).run = some (AV.b true, []) := by kernel_rfl
theorem nm_19 : (E_namem (nameN 19)).run = some (AV.b true, []) := by kernel_rfl
theorem nms (k : Nat) (hk : k < 20) : (E_namem (nameN k)).run = some (AV.b true, []) := match k, hk with
  | 0, _ => nm_0
  | 1, _ => nm_1
  | 2, _ => nm_2
  | 3, _ => nm_3
  | 4, _ => nm_4
  | 5, _ => nm_5
  | 6, _ => nm_6
  | 7, _ => nm_7
  | 8, _ => nm_8
  | 9, _ => nm_9
  | 10, _ => nm_10
  | 11, _ => nm_11
  | 12, _ => nm_12
  | 13, _ => nm_13
  | 14, _ => nm_14
  | 15, _ => nm_15
  | 16, _ => nm_16
  | 17, _ => nm_17
  | 18, _ => nm_18
  | 19, _ => nm_19
  | k + 20, hk => absurd hk (by omega)
attribute [local irreducible] E_namem
noncomputable def F_namem : denAs [.c .s] → denObs [] → Tree (AV × List Ob) := fun x y => match x, y with
  | (s, ()), () => .ite (isName s) (.ret (AV.b true, [])) .fail
theorem fe_namem : ∀ a y, (F_namem (ea_namem a) (eo_namem a)).run = some y → (E_namem a).run = some y := by
  intro s y h
  have h' : (Tree.ite (isName s) (Tree.ret (AV.b true, ([] : List Ob))) Tree.fail).run = some y := h
  clear h
  cases hb : isName s with
  | false => rw [hb] at h'; exact absurd h' (by intro h; cases h)
  | true =>
    rw [hb] at h'
    have hy : some (AV.b true, ([] : List Ob)) = some y := h'
    rw [← hy]
    obtain ⟨k, hk, rfl⟩ := isName_ex hb
    exact nms k hk
theorem ok_namem : SummOk Kn Tryz.prog 61 (sumT [.any] false [.c .s] [] F_namem) := sumT_view tok_secm Tryz.checked.mixed Tryz.func61 (by kernel_rfl) (by rfl) 40 [] ea_namem eo_namem
  (by rintro ⟨s, ⟨⟩⟩ ⟨⟩; exact ⟨s, rfl, rfl⟩) noL 0 (by rintro ⟨⟩; rfl) (noL_ok _ _ _ _ _ _) E_namem ev_namem fe_namem
noncomputable def L_namem : List (Nat × Summ) := (61, (sumT [.any] false [.c .s] [] F_namem)) :: L_secm
theorem tok_namem : TOk Kn Tryz.prog (lk L_namem) := lk_cons ok_namem tok_secm

def ea_loadsm : Slots × Int → denAs [.c (.d insT), .c (.i .i64)] := fun ⟨l, n⟩ => (l, n, ())
def eo_loadsm : Slots × Int → denObs [] := fun ⟨l, n⟩ => ()
noncomputable def E_loadsm : Slots × Int → Tree (AV × List Ob) := fun a => (evalFnL Tryz.prog (lk L_namem) 40 noL Tryz.f62 (Tryz.f62.body.getD .skip) [] (encAs [.c (.d insT), .c (.i .i64)] (ea_loadsm a)) (encOs [] (eo_loadsm a)))
theorem ev_loadsm : ∀ a, (evalFnL Tryz.prog (lk L_namem) 40 noL Tryz.f62 (Tryz.f62.body.getD .skip) [] (encAs [.c (.d insT), .c (.i .i64)] (ea_loadsm a)) (encOs [] (eo_loadsm a))).run = (E_loadsm a).run := by
  intro a; rfl
theorem lds (n : Int) : (E_loadsm (plainI, n)).run = some (AV.b true, []) := by kernel_rfl
attribute [local irreducible] E_loadsm
noncomputable def F_loadsm : denAs [.c (.d insT), .c (.i .i64)] → denObs [] → Tree (AV × List Ob) := fun x y => match x, y with
  | (l, n, ()), () => .ite (isP l) (.ret (AV.b true, [])) .fail
theorem fe_loadsm : ∀ a y, (F_loadsm (ea_loadsm a) (eo_loadsm a)).run = some y → (E_loadsm a).run = some y := by
  rintro ⟨l, n⟩ y h
  have h' : (Tree.ite (isP l) (Tree.ret (AV.b true, ([] : List Ob))) Tree.fail).run = some y := h
  clear h
  cases hb : isP l with
  | false => rw [hb] at h'; exact absurd h' (by intro h; cases h)
  | true =>
    rw [hb] at h'
    have hy : some (AV.b true, ([] : List Ob)) = some y := h'
    rw [← hy]
    have hl := isP_eq hb
    subst hl
    exact lds n
theorem ok_loadsm : SummOk Kn Tryz.prog 62 (sumT [.dp insT, .any] false [.c (.d insT), .c (.i .i64)] [] F_loadsm) := sumT_view tok_namem Tryz.checked.mixed Tryz.func62 (by kernel_rfl) (by rfl) 40 [] ea_loadsm eo_loadsm
  (by rintro ⟨l, n, ⟨⟩⟩ ⟨⟩; exact ⟨(l, n), rfl, rfl⟩) noL 0 (by rintro ⟨⟩; rfl) (noL_ok _ _ _ _ _ _) E_loadsm ev_loadsm fe_loadsm
noncomputable def L_loadsm : List (Nat × Summ) := (62, (sumT [.dp insT, .any] false [.c (.d insT), .c (.i .i64)] [] F_loadsm)) :: L_namem
theorem tok_loadsm : TOk Kn Tryz.prog (lk L_loadsm) := lk_cons ok_loadsm tok_namem

def ea_prg : Maps × Progs → denAs [.p (.many [.nilS, .h 0, .h 1])] := fun ⟨a, p⟩ => (((), (), (), ()), ())
def eo_prg : Maps × Progs → denObs [.row mapT, .row progT] := fun ⟨a, p⟩ => (a, p, ())
noncomputable def E_prg : Maps × Progs → Tree (AV × List Ob) := fun a => (evalFnL Tryz.prog (lk L_loadsm) 40 noL Tryz.f23 (Tryz.f23.body.getD .skip) [] (encAs [.p (.many [.nilS, .h 0, .h 1])] (ea_prg a)) (encOs [.row mapT, .row progT] (eo_prg a)))
theorem ev_prg : ∀ a, (evalFnL Tryz.prog (lk L_loadsm) 40 noL Tryz.f23 (Tryz.f23.body.getD .skip) [] (encAs [.p (.many [.nilS, .h 0, .h 1])] (ea_prg a)) (encOs [.row mapT, .row progT] (eo_prg a))).run = (E_prg a).run := by
  intro a; rfl
theorem prg_0_0 (a : Maps) : (E_prg (a, progsL 0 0)).run = some (prgR a (progsL 0 0)) := by kernel_rfl
theorem prg_1_0 (a : Maps) : (E_prg (a, progsL 1 0)).run = some (prgR a (progsL 1 0)) := by kernel_rfl
theorem prg_2_0 (a : Maps) : (E_prg (a, progsL 2 0)).run = some (prgR a (progsL 2 0)) := by kernel_rfl
theorem prg_2_1 (a : Maps) : (E_prg (a, progsL 2 1)).run = some (prgR a (progsL 2 1)) := by kernel_rfl
theorem prg_3_0 (a : Maps) : (E_prg (a, progsL 3 0)).run = some (prgR a (progsL 3 0)) := by kernel_rfl
theorem prg_3_1 (a : Maps) : (E_prg (a, progsL 3 1)).run = some (prgR a (progsL 3 1)) := by kernel_rfl
theorem prg_3_2 (a : Maps) : (E_prg (a, progsL 3 2)).run = some (prgR a (progsL 3 2)) := by kernel_rfl
theorem prg_4_0 (a : Maps) : (E_prg (a, progsL 4 0)).run = some (prgR a (progsL 4 0)) := by kernel_rfl
theorem prg_4_1 (a : Maps) : (E_prg (a, progsL 4 1)).run = some (prgR a (progsL 4 1)) := by kernel_rfl
theorem prg_4_2 (a : Maps) : (E_prg (a, progsL 4 2)).run = some (prgR a (progsL 4 2)) := by kernel_rfl
theorem prg_4_3 (a : Maps) : (E_prg (a, progsL 4 3)).run = some (prgR a (progsL 4 3)) := by kernel_rfl
theorem prg_5_0 (a : Maps) : (E_prg (a, progsL 5 0)).run = some (prgR a (progsL 5 0)) := by kernel_rfl
theorem prg_5_1 (a : Maps) : (E_prg (a, progsL 5 1)).run = some (prgR a (progsL 5 1)) := by kernel_rfl
theorem prg_5_2 (a : Maps) : (E_prg (a, progsL 5 2)).run = some (prgR a (progsL 5 2)) := by kernel_rfl
theorem prg_5_3 (a : Maps) : (E_prg (a, progsL 5 3)).run = some (prgR a (progsL 5 3)) := by kernel_rfl
theorem prg_5_4 (a : Maps) : (E_prg (a, progsL 5 4)).run = some (prgR a (progsL 5 4)) := by kernel_rfl
theorem prg_6_0 (a : Maps) : (E_prg (a, progsL 6 0)).run = some (prgR a (progsL 6 0)) := by kernel_rfl
theorem prg_6_1 (a : Maps) : (E_prg (a, progsL 6 1)).run = some (prgR a (progsL 6 1)) := by kernel_rfl
theorem prg_6_2 (a : Maps) : (E_prg (a, progsL 6 2)).run = some (prgR a (progsL 6 2)) := by kernel_rfl
theorem prg_6_3 (a : Maps) : (E_prg (a, progsL 6 3)).run = some (prgR a (progsL 6 3)) := by kernel_rfl
theorem prg_6_4 (a : Maps) : (E_prg (a, progsL 6 4)).run = some (prgR a (progsL 6 4)) := by kernel_rfl
theorem prg_6_5 (a : Maps) : (E_prg (a, progsL 6 5)).run = some (prgR a (progsL 6 5)) := by kernel_rfl
theorem prg_7_0 (a : Maps) : (E_prg (a, progsL 7 0)).run = some (prgR a (progsL 7 0)) := by kernel_rfl
theorem prg_7_1 (a : Maps) : (E_prg (a, progsL 7 1)).run = some (prgR a (progsL 7 1)) := by kernel_rfl
theorem prg_7_2 (a : Maps) : (E_prg (a, progsL 7 2)).run = some (prgR a (progsL 7 2)) := by kernel_rfl
theorem prg_7_3 (a : Maps) : (E_prg (a, progsL 7 3)).run = some (prgR a (progsL 7 3)) := by kernel_rfl
theorem prg_7_4 (a : Maps) : (E_prg (a, progsL 7 4)).run = some (prgR a (progsL 7 4)) := by kernel_rfl
theorem prg_7_5 (a : Maps) : (E_prg (a, progsL 7 5)).run = some (prgR a (progsL 7 5)) := by kernel_rfl
theorem prg_7_6 (a : Maps) : (E_prg (a, progsL 7 6)).run = some (prgR a (progsL 7 6)) := by kernel_rfl
theorem prg_8_0 (a : Maps) : (E_prg (a, progsL 8 0)).run = some (prgR a (progsL 8 0)) := by kernel_rfl
theorem prg_8_1 (a : Maps) : (E_prg (a, progsL 8 1)).run = some (prgR a (progsL 8 1)) := by kernel_rfl
theorem prg_8_2 (a : Maps) : (E_prg (a, progsL 8 2)).run = some (prgR a (progsL 8 2)) := by kernel_rfl
theorem prg_8_3 (a : Maps) : (E_prg (a, progsL 8 3)).run = some (prgR a (progsL 8 3)) := by kernel_rfl
theorem prg_8_4 (a : Maps) : (E_prg (a, progsL 8 4)).run = some (prgR a (progsL 8 4)) := by kernel_rfl
theorem prg_8_5 (a : Maps) : (E_prg (a, progsL 8 5)).run = some (prgR a (progsL 8 5)) := by kernel_rfl
theorem prg_8_6 (a : Maps) : (E_prg (a, progsL 8 6)).run = some (prgR a (progsL 8 6)) := by kernel_rfl
theorem prg_8_7 (a : Maps) : (E_prg (a, progsL 8 7)).run = some (prgR a (progsL 8 7)) := by kernel_rfl
theorem prg_9_0 (a : Maps) : (E_prg (a, progsL 9 0)).run = some (prgR a (progsL 9 0)) := by kernel_rfl
theorem prg_9_1 (a : Maps) : (E_prg (a, progsL 9 1)).run = some (prgR a (progsL 9 1)) := by kernel_rfl
theorem prg_9_2 (a : Maps) : (E_prg (a, progsL 9 2)).run = some (prgR a (progsL 9 2)) := by kernel_rfl
theorem prg_9_3 (a : Maps) : (E_prg (a, progsL 9 3)).run = some (prgR a (progsL 9 3)) := by kernel_rfl
theorem prg_9_4 (a : Maps) : (E_prg (a, progsL 9 4)).run = some (prgR a (progsL 9 4)) := by kernel_rfl
theorem prg_9_5 (a : Maps) : (E_prg (a, progsL 9 5)).run = some (prgR a (progsL 9 5)) := by kernel_rfl
theorem prg_9_6 (a : Maps) : (E_prg (a, progsL 9 6)).run = some (prgR a (progsL 9 6)) := by kernel_rfl
theorem prg_9_7 (a : Maps) : (E_prg (a, progsL 9 7)).run = some (prgR a (progsL 9 7)) := by kernel_rfl
theorem prg_9_8 (a : Maps) : (E_prg (a, progsL 9 8)).run = some (prgR a (progsL 9 8)) := by kernel_rfl
theorem prg_10_0 (a : Maps) : (E_prg (a, progsL 10 0)).run = some (prgR a (progsL 10 0)) := by kernel_rfl
theorem prg_10_1 (a : Maps) : (E_prg (a, progsL 10 1)).run = some (prgR a (progsL 10 1)) := by kernel_rfl
theorem prg_10_2 (a : Maps) : (E_prg (a, progsL 10 2)).run = some (prgR a (progsL 10 2)) := by kernel_rfl
theorem prg_10_3 (a : Maps) : (E_prg (a, progsL 10 3)).run = some (prgR a (progsL 10 3)) := by kernel_rfl
theorem prg_10_4 (a : Maps) : (E_prg (a, progsL 10 4)).run = some (prgR a (progsL 10 4)) := by kernel_rfl
theorem prg_10_5 (a : Maps) : (E_prg (a, progsL 10 5)).run = some (prgR a (progsL 10 5)) := by kernel_rfl
theorem prg_10_6 (a : Maps) : (E_prg (a, progsL 10 6)).run = some (prgR a (progsL 10 6)) := by kernel_rfl
theorem prg_10_7 (a : Maps) : (E_prg (a, progsL 10 7)).run = some (prgR a (progsL 10 7)) := by kernel_rfl
theorem prg_10_8 (a : Maps) : (E_prg (a, progsL 10 8)).run = some (prgR a (progsL 10 8)) := by kernel_rfl
theorem prg_10_9 (a : Maps) : (E_prg (a, progsL 10 9)).run = some (prgR a (progsL 10 9)) := by kernel_rfl
theorem prg_11_0 (a : Maps) : (E_prg (a, progsL 11 0)).run = some (prgR a (progsL 11 0)) := by kernel_rfl
theorem prg_11_1 (a : Maps) : (E_prg (a, progsL 11 1)).run = some (prgR a (progsL 11 1)) := by kernel_rfl
theorem prg_11_2 (a : Maps) : (E_prg (a, progsL 11 2)).run = some (prgR a (progsL 11 2)) := by kernel_rfl
theorem prg_11_3 (a : Maps) : (E_prg (a, progsL 11 3)).run = some (prgR a (progsL 11 3)) := by kernel_rfl
theorem prg_11_4 (a : Maps) : (E_prg (a, progsL 11 4)).run = some (prgR a (progsL 11 4)) := by kernel_rfl
theorem prg_11_5 (a : Maps) : (E_prg (a, progsL 11 5)).run = some (prgR a (progsL 11 5)) := by kernel_rfl
theorem prg_11_6 (a : Maps) : (E_prg (a, progsL 11 6)).run = some (prgR a (progsL 11 6)) := by kernel_rfl
theorem prg_11_7 (a : Maps) : (E_prg (a, progsL 11 7)).run = some (prgR a (progsL 11 7)) := by kernel_rfl
theorem prg_11_8 (a : Maps) : (E_prg (a, progsL 11 8)).run = some (prgR a (progsL 11 8)) := by kernel_rfl
theorem prg_11_9 (a : Maps) : (E_prg (a, progsL 11 9)).run = some (prgR a (progsL 11 9)) := by kernel_rfl
theorem prg_11_10 (a : Maps) : (E_prg (a, progsL 11 10)).run = some (prgR a (progsL 11 10)) := by kernel_rfl
theorem prg_12_0 (a : Maps) : (E_prg (a, progsL 12 0)).run = some (prgR a (progsL 12 0)) := by kernel_rfl
theorem prg_12_1 (a : Maps) : (E_prg (a, progsL 12 1)).run = some (prgR a (progsL 12 1)) := by kernel_rfl
theorem prg_12_2 (a : Maps) : (E_prg (a, progsL 12 2)).run = some (prgR a (progsL 12 2)) := by kernel_rfl
theorem prg_12_3 (a : Maps) : (E_prg (a, progsL 12 3)).run = some (prgR a (progsL 12 3)) := by kernel_rfl
theorem prg_12_4 (a : Maps) : (E_prg (a, progsL 12 4)).run = some (prgR a (progsL 12 4)) := by kernel_rfl
theorem prg_12_5 (a : Maps) : (E_prg (a, progsL 12 5)).run = some (prgR a (progsL 12 5)) := by kernel_rfl
theorem prg_12_6 (a : Maps) : (E_prg (a, progsL 12 6)).run = some (prgR a (progsL 12 6)) := by kernel_rfl
theorem prg_12_7 (a : Maps) : (E_prg (a, progsL 12 7)).run = some (prgR a (progsL 12 7)) := by kernel_rfl
theorem prg_12_8 (a : Maps) : (E_prg (a, progsL 12 8)).run = some (prgR a (progsL 12 8)) := by kernel_rfl
theorem prg_12_9 (a : Maps) : (E_prg (a, progsL 12 9)).run = some (prgR a (progsL 12 9)) := by kernel_rfl
theorem prg_12_10 (a : Maps) : (E_prg (a, progsL 12 10)).run = some (prgR a (progsL 12 10)) := by kernel_rfl
theorem prg_12_11 (a : Maps) : (E_prg (a, progsL 12 11)).run = some (prgR a (progsL 12 11)) := by kernel_rfl
theorem prg_13_0 (a : Maps) : (E_prg (a, progsL 13 0)).run = some (prgR a (progsL 13 0)) := by kernel_rfl
theorem prg_13_1 (a : Maps) : (E_prg (a, progsL 13 1)).run = some (prgR a (progsL 13 1)) := by kernel_rfl
theorem prg_13_2 (a : Maps) : (E_prg (a, progsL 13 2)).run = some (prgR a (progsL 13 2)) := by kernel_rfl
theorem prg_13_3 (a : Maps) : (E_prg (a, progsL 13 3)).run = some (prgR a (progsL 13 3)) := by kernel_rfl
theorem prg_13_4 (a : Maps) : (E_prg (a, progsL 13 4)).run = some (prgR a (progsL 13 4)) := by kernel_rfl
theorem prg_13_5 (a : Maps) : (E_prg (a, progsL 13 5)).run = some (prgR a (progsL 13 5)) := by kernel_rfl
theorem prg_13_6 (a : Maps) : (E_prg (a, progsL 13 6)).run = some (prgR a (progsL 13 6)) := by kernel_rfl
theorem prg_13_7 (a : Maps) : (E_prg (a, progsL 13 7)).run = some (prgR a (progsL 13 7)) := by kernel_rfl
theorem prg_13_8 (a : Maps) : (E_prg (a, progsL 13 8)).run = some (prgR a (progsL 13 8)) := by kernel_rfl
theorem prg_13_9 (a : Maps) : (E_prg (a, progsL 13 9)).run = some (prgR a (progsL 13 9)) := by kernel_rfl
theorem prg_13_10 (a : Maps) : (E_prg (a, progsL 13 10)).run = some (prgR a (progsL 13 10)) := by kernel_rfl
theorem prg_13_11 (a : Maps) : (E_prg (a, progsL 13 11)).run = some (prgR a (progsL 13 11)) := by kernel_rfl
theorem prg_13_12 (a : Maps) : (E_prg (a, progsL 13 12)).run = some (prgR a (progsL 13 12)) := by kernel_rfl
theorem prg_14_0 (a : Maps) : (E_prg (a, progsL 14 0)).run = some (prgR a (progsL 14 0)) := by kernel_rfl
theorem prg_14_1 (a : Maps) : (E_prg (a, progsL 14 1)).run = some (prgR a (progsL 14 1)) := by kernel_rfl
theorem prg_14_2 (a : Maps) : (E_prg (a, progsL 14 2)).run = some (prgR a (progsL 14 2)) := by kernel_rfl
theorem prg_14_3 (a : Maps) : (E_prg (a, progsL 14 3)).run = some (prgR a (progsL 14 3)) := by kernel_rfl
theorem prg_14_4 (a : Maps) : (E_prg (a, progsL 14 4)).run = some (prgR a (progsL 14 4)) := by kernel_rfl
theorem prg_14_5 (a : Maps) : (E_prg (a, progsL 14 5)).run = some (prgR a (progsL 14 5)) := by kernel_rfl
theorem prg_14_6 (a : Maps) : (E_prg (a, progsL 14 6)).run = some (prgR a (progsL 14 6)) := by kernel_rfl
theorem prg_14_7 (a : Maps) : (E_prg (a, progsL 14 7)).run = some (prgR a (progsL 14 7)) := by kernel_rfl
theorem prg_14_8 (a : Maps) : (E_prg (a, progsL 14 8)).run = some (prgR a (progsL 14 8)) := by kernel_rfl
theorem prg_14_9 (a : Maps) : (E_prg (a, progsL 14 9)).run = some (prgR a (progsL 14 9)) := by kernel_rfl
theorem prg_14_10 (a : Maps) : (E_prg (a, progsL 14 10)).run = some (prgR a (progsL 14 10)) := by kernel_rfl
theorem prg_14_11 (a : Maps) : (E_prg (a, progsL 14 11)).run = some (prgR a (progsL 14 11)) := by kernel_rfl
theorem prg_14_12 (a : Maps) : (E_prg (a, progsL 14 12)).run = some (prgR a (progsL 14 12)) := by kernel_rfl
theorem prg_14_13 (a : Maps) : (E_prg (a, progsL 14 13)).run = some (prgR a (progsL 14 13)) := by kernel_rfl
theorem prg_15_0 (a : Maps) : (E_prg (a, progsL 15 0)).run = some (prgR a (progsL 15 0)) := by kernel_rfl
theorem prg_15_1 (a : Maps) : (E_prg (a, progsL 15 1)).run = some (prgR a (progsL 15 1)) := by kernel_rfl
theorem prg_15_2 (a : Maps) : (E_prg (a, progsL 15 2)).run = some (prgR a (progsL 15 2)) := by kernel_rfl
theorem prg_15_3 (a : Maps) : (E_prg (a, progsL 15 3)).run = some (prgR a (progsL 15 3)) := by kernel_rfl
theorem prg_15_4 (a : Maps) : (E_prg (a, progsL 15 4)).run = some (prgR a (progsL 15 4)) := by kernel_rfl
theorem prg_15_5 (a : Maps) : (E_prg (a, progsL 15 5)).run = some (prgR a (progsL 15 5)) := by kernel_rfl
theorem prg_15_6 (a : Maps) : (E_prg (a, progsL 15 6)).run = some (prgR a (progsL 15 6)) := by kernel_rfl
theorem prg_15_7 (a : Maps) : (E_prg (a, progsL 15 7)).run = some (prgR a (progsL 15 7)) := by kernel_rfl
theorem prg_15_8 (a : Maps) : (E_prg (a, progsL 15 8)).run = some (prgR a (progsL 15 8)) := by kernel_rfl
theorem prg_15_9 (a : Maps) : (E_prg (a, progsL 15 9)).run = some (prgR a (progsL 15 9)) := by kernel_rfl
theorem prg_15_10 (a : Maps) : (E_prg (a, progsL 15 10)).run = some (prgR a (progsL 15 10)) := by kernel_rfl
theorem prg_15_11 (a : Maps) : (E_prg (a, progsL 15 11)).run = some (prgR a (progsL 15 11)) := by kernel_rfl
theorem prg_15_12 (a : Maps) : (E_prg (a, progsL 15 12)).run = some (prgR a (progsL 15 12)) := by kernel_rfl
theorem prg_15_13 (a : Maps) : (E_prg (a, progsL 15 13)).run = some (prgR a (progsL 15 13)) := by kernel_rfl
theorem prg_15_14 (a : Maps) : (E_prg (a, progsL 15 14)).run = some (prgR a (progsL 15 14)) := by kernel_rfl
theorem prg_16_0 (a : Maps) : (E_prg (a, progsL 16 0)).run = some (prgR a (progsL 16 0)) := by kernel_rfl
theorem prg_16_1 (a : Maps) : (E_prg (a, progsL 16 1)).run = some (prgR a (progsL 16 1)) := by kernel_rfl
theorem prg_16_2 (a : Maps) : (E_prg (a, progsL 16 2)).run = some (prgR a (progsL 16 2)) := by kernel_rfl
theorem prg_16_3 (a : Maps) : (E_prg (a, progsL 16 3)).run = some (prgR a (progsL 16 3)) := by kernel_rfl
theorem prg_16_4 (a : Maps) : (E_prg (a, progsL 16 4)).run = some (prgR a (progsL 16 4)) := by kernel_rfl
theorem prg_16_5 (a : Maps) : (E_prg (a, progsL 16 5)).run = some (prgR a (progsL 16 5)) := by kernel_rfl
theorem prg_16_6 (a : Maps) : (E_prg (a, progsL 16 6)).run = some (prgR a (progsL 16 6)) := by kernel_rfl
theorem prg_16_7 (a : Maps) : (E_prg (a, progsL 16 7)).run = some (prgR a (progsL 16 7)) := by kernel_rfl
theorem prg_16_8 (a : Maps) : (E_prg (a, progsL 16 8)).run = some (prgR a (progsL 16 8)) := by kernel_rfl
theorem prg_16_9 (a : Maps) : (E_prg (a, progsL 16 9)).run = some (prgR a (progsL 16 9)) := by kernel_rfl
theorem prg_16_10 (a : Maps) : (E_prg (a, progsL 16 10)).run = some (prgR a (progsL 16 10)) := by kernel_rfl
theorem prg_16_11 (a : Maps) : (E_prg (a, progsL 16 11)).run = some (prgR a (progsL 16 11)) := by kernel_rfl
theorem prg_16_12 (a : Maps) : (E_prg (a, progsL 16 12)).run = some (prgR a (progsL 16 12)) := by kernel_rfl
theorem prg_16_13 (a : Maps) : (E_prg (a, progsL 16 13)).run = some (prgR a (progsL 16 13)) := by kernel_rfl
theorem prg_16_14 (a : Maps) : (E_prg (a, progsL 16 14)).run = some (prgR a (progsL 16 14)) := by kernel_rfl
theorem prg_16_15 (a : Maps) : (E_prg (a, progsL 16 15)).run = some (prgR a (progsL 16 15)) := by kernel_rfl
theorem prg_17_0 (a : Maps) : (E_prg (a, progsL 17 0)).run = some (prgR a (progsL 17 0)) := by kernel_rfl
theorem prg_17_1 (a : Maps) : (E_prg (a, progsL 17 1)).run = some (prgR a (progsL 17 1)) := by kernel_rfl
theorem prg_17_2 (a : Maps) : (E_prg (a, progsL 17 2)).run = some (prgR a (progsL 17 2)) := by kernel_rfl
theorem prg_17_3 (a : Maps) : (E_prg (a, progsL 17 3)).run = some (prgR a (progsL 17 3)) := by kernel_rfl
theorem prg_17_4 (a : Maps) : (E_prg (a, progsL 17 4)).run = some (prgR a (progsL 17 4)) := by kernel_rfl
theorem prg_17_5 (a : Maps) : (E_prg (a, progsL 17 5)).run = some (prgR a (progsL 17 5)) := by kernel_rfl
theorem prg_17_6 (a : Maps) : (E_prg (a, progsL 17 6)).run = some (prgR a (progsL 17 6)) := by kernel_rfl
theorem prg_17_7 (a : Maps) : (E_prg (a, progsL 17 7)).run = some (prgR a (progsL 17 7)) := by kernel_rfl
theorem prg_17_8 (a : Maps) : (E_prg (a, progsL 17 8)).run = some (prgR a (progsL 17 8)) := by kernel_rfl
theorem prg_17_9 (a : Maps) : (E_prg (a, progsL 17 9)).run = some (prgR a (progsL 17 9)) := by kernel_rfl
theorem prg_17_10 (a : Maps) : (E_prg (a, progsL 17 10)).run = some (prgR a (progsL 17 10)) := by kernel_rfl
theorem prg_17_11 (a : Maps) : (E_prg (a, progsL 17 11)).run = some (prgR a (progsL 17 11)) := by kernel_rfl
theorem prg_17_12 (a : Maps) : (E_prg (a, progsL 17 12)).run = some (prgR a (progsL 17 12)) := by kernel_rfl
theorem prg_17_13 (a : Maps) : (E_prg (a, progsL 17 13)).run = some (prgR a (progsL 17 13)) := by kernel_rfl
theorem prg_17_14 (a : Maps) : (E_prg (a, progsL 17 14)).run = some (prgR a (progsL 17 14)) := by kernel_rfl
theorem prg_17_15 (a : Maps) : (E_prg (a, progsL 17 15)).run = some (prgR a (progsL 17 15)) := by kernel_rfl
theorem prg_17_16 (a : Maps) : (E_prg (a, progsL 17 16)).run = some (prgR a (progsL 17 16)) := by kernel_rfl
theorem prg_18_0 (a : Maps) : (E_prg (a, progsL 18 0)).run = some (prgR a (progsL 18 0)) := by kernel_rfl
theorem prg_18_1 (a : Maps) : (E_prg (a, progsL 18 1)).run = some (prgR a (progsL 18 1)) := by kernel_rfl
theorem prg_18_2 (a : Maps) : (E_prg (a, progsL 18 2)).run = some (prgR a (progsL 18 2)) := by kernel_rfl
theorem prg_18_3 (a : Maps) : (E_prg (a, progsL 18 3)).run = some (prgR a (progsL 18 3)) := by kernel_rfl
theorem prg_18_4 (a : Maps) : (E_prg (a, progsL 18 4)).run = some (prgR a (progsL 18 4)) := by kernel_rfl
theorem prg_18_5 (a : Maps) : (E_prg (a, progsL 18 5)).run = some (prgR a (progsL 18 5)) := by kernel_rfl
theorem prg_18_6 (a : Maps) : (E_prg (a, progsL 18 6)).run = some (prgR a (progsL 18 6)) := by kernel_rfl
theorem prg_18_7 (a : Maps) : (E_prg (a, progsL 18 7)).run = some (prgR a (progsL 18 7)) := by kernel_rfl
theorem prg_18_8 (a : Maps) : (E_prg (a, progsL 18 8)).run = some (prgR a (progsL 18 8)) := by kernel_rfl
theorem prg_18_9 (a : Maps) : (E_prg (a, progsL 18 9)).run = some (prgR a (progsL 18 9)) := by kernel_rfl
theorem prg_18_10 (a : Maps) : (E_prg (a, progsL 18 10)).run = some (prgR a (progsL 18 10)) := by kernel_rfl
theorem prg_18_11 (a : Maps) : (E_prg (a, progsL 18 11)).run = some (prgR a (progsL 18 11)) := by kernel_rfl
theorem prg_18_12 (a : Maps) : (E_prg (a, progsL 18 12)).run = some (prgR a (progsL 18 12)) := by kernel_rfl
theorem prg_18_13 (a : Maps) : (E_prg (a, progsL 18 13)).run = some (prgR a (progsL 18 13)) := by kernel_rfl
theorem prg_18_14 (a : Maps) : (E_prg (a, progsL 18 14)).run = some (prgR a (progsL 18 14)) := by kernel_rfl
theorem prg_18_15 (a : Maps) : (E_prg (a, progsL 18 15)).run = some (prgR a (progsL 18 15)) := by kernel_rfl
theorem prg_18_16 (a : Maps) : (E_prg (a, progsL 18 16)).run = some (prgR a (progsL 18 16)) := by kernel_rfl
theorem prg_18_17 (a : Maps) : (E_prg (a, progsL 18 17)).run = some (prgR a (progsL 18 17)) := by kernel_rfl
theorem prg_19_0 (a : Maps) : (E_prg (a, progsL 19 0)).run = some (prgR a (progsL 19 0)) := by kernel_rfl
theorem prg_19_1 (a : Maps) : (E_prg (a, progsL 19 1)).run = some (prgR a (progsL 19 1)) := by kernel_rfl
theorem prg_19_2 (a : Maps) : (E_prg (a, progsL 19 2)).run = some (prgR a (progsL 19 2)) := by kernel_rfl
theorem prg_19_3 (a : Maps) : (E_prg (a, progsL 19 3)).run = some (prgR a (progsL 19 3)) := by kernel_rfl
theorem prg_19_4 (a : Maps) : (E_prg (a, progsL 19 4)).run = some (prgR a (progsL 19 4)) := by kernel_rfl
theorem prg_19_5 (a : Maps) : (E_prg (a, progsL 19 5)).run = some (prgR a (progsL 19 5)) := by kernel_rfl
theorem prg_19_6 (a : Maps) : (E_prg (a, progsL 19 6)).run = some (prgR a (progsL 19 6)) := by kernel_rfl
theorem prg_19_7 (a : Maps) : (E_prg (a, progsL 19 7)).run = some (prgR a (progsL 19 7)) := by kernel_rfl
theorem prg_19_8 (a : Maps) : (E_prg (a, progsL 19 8)).run = some (prgR a (progsL 19 8)) := by kernel_rfl
theorem prg_19_9 (a : Maps) : (E_prg (a, progsL 19 9)).run = some (prgR a (progsL 19 9)) := by kernel_rfl
theorem prg_19_10 (a : Maps) : (E_prg (a, progsL 19 10)).run = some (prgR a (progsL 19 10)) := by kernel_rfl
theorem prg_19_11 (a : Maps) : (E_prg (a, progsL 19 11)).run = some (prgR a (progsL 19 11)) := by kernel_rfl
theorem prg_19_12 (a : Maps) : (E_prg (a, progsL 19 12)).run = some (prgR a (progsL 19 12)) := by kernel_rfl
theorem prg_19_13 (a : Maps) : (E_prg (a, progsL 19 13)).run = some (prgR a (progsL 19 13)) := by kernel_rfl
theorem prg_19_14 (a : Maps) : (E_prg (a, progsL 19 14)).run = some (prgR a (progsL 19 14)) := by kernel_rfl
theorem prg_19_15 (a : Maps) : (E_prg (a, progsL 19 15)).run = some (prgR a (progsL 19 15)) := by kernel_rfl
theorem prg_19_16 (a : Maps) : (E_prg (a, progsL 19 16)).run = some (prgR a (progsL 19 16)) := by kernel_rfl
theorem prg_19_17 (a : Maps) : (E_prg (a, progsL 19 17)).run = some (prgR a (progsL 19 17)) := by kernel_rfl
theorem prg_19_18 (a : Maps) : (E_prg (a, progsL 19 18)).run = some (prgR a (progsL 19 18)) := by kernel_rfl
theorem prg_20_0 (a : Maps) : (E_prg (a, progsL 20 0)).run = some (prgR a (progsL 20 0)) := by kernel_rfl
theorem prg_20_1 (a : Maps) : (E_prg (a, progsL 20 1)).run = some (prgR a (progsL 20 1)) := by kernel_rfl
theorem prg_20_2 (a : Maps) : (E_prg (a, progsL 20 2)).run = some (prgR a (progsL 20 2)) := by kernel_rfl
theorem prg_20_3 (a : Maps) : (E_prg (a, progsL 20 3)).run = some (prgR a (progsL 20 3)) := by kernel_rfl
theorem prg_20_4 (a : Maps) : (E_prg (a, progsL 20 4)).run = some (prgR a (progsL 20 4)) := by kernel_rfl
theorem prg_20_5 (a : Maps) : (E_prg (a, progsL 20 5)).run = some (prgR a (progsL 20 5)) := by kernel_rfl
theorem prg_20_6 (a : Maps) : (E_prg (a, progsL 20 6)).run = some (prgR a (progsL 20 6)) := by kernel_rfl
theorem prg_20_7 (a : Maps) : (E_prg (a, progsL 20 7)).run = some (prgR a (progsL 20 7)) := by kernel_rfl
theorem prg_20_8 (a : Maps) : (E_prg (a, progsL 20 8)).run = some (prgR a (progsL 20 8)) := by kernel_rfl
theorem prg_20_9 (a : Maps) : (E_prg (a, progsL 20 9)).run = some (prgR a (progsL 20 9)) := by kernel_rfl
theorem prg_20_10 (a : Maps) : (E_prg (a, progsL 20 10)).run = some (prgR a (progsL 20 10)) := by kernel_rfl
theorem prg_20_11 (a : Maps) : (E_prg (a, progsL 20 11)).run = some (prgR a (progsL 20 11)) := by kernel_rfl
theorem prg_20_12 (a : Maps) : (E_prg (a, progsL 20 12)).run = some (prgR a (progsL 20 12)) := by kernel_rfl
theorem prg_20_13 (a : Maps) : (E_prg (a, progsL 20 13)).run = some (prgR a (progsL 20 13)) := by kernel_rfl
theorem prg_20_14 (a : Maps) : (E_prg (a, progsL 20 14)).run = some (prgR a (progsL 20 14)) := by kernel_rfl
theorem prg_20_15 (a : Maps) : (E_prg (a, progsL 20 15)).run = some (prgR a (progsL 20 15)) := by kernel_rfl
theorem prg_20_16 (a : Maps) : (E_prg (a, progsL 20 16)).run = some (prgR a (progsL 20 16)) := by kernel_rfl
theorem prg_20_17 (a : Maps) : (E_prg (a, progsL 20 17)).run = some (prgR a (progsL 20 17)) := by kernel_rfl
theorem prg_20_18 (a : Maps) : (E_prg (a, progsL 20 18)).run = some (prgR a (progsL 20 18)) := by kernel_rfl
theorem prg_20_19 (a : Maps) : (E_prg (a, progsL 20 19)).run = some (prgR a (progsL 20 19)) := by kernel_rfl
theorem prgs (n t : Nat) (hn : n ≤ 20) (a : Maps) : (E_prg (a, progsL n t)).run = some (prgR a (progsL n t)) := by
  have h0 : ∀ n, n ≤ 20 → (E_prg (a, progsL n 0)).run = some (prgR a (progsL n 0)) := fun n hn => match n, hn with
    | 0, _ => prg_0_0 a
    | 1, _ => prg_1_0 a
    | 2, _ => prg_2_0 a
    | 3, _ => prg_3_0 a
    | 4, _ => prg_4_0 a
    | 5, _ => prg_5_0 a
    | 6, _ => prg_6_0 a
    | 7, _ => prg_7_0 a
    | 8, _ => prg_8_0 a
    | 9, _ => prg_9_0 a
    | 10, _ => prg_10_0 a
    | 11, _ => prg_11_0 a
    | 12, _ => prg_12_0 a
    | 13, _ => prg_13_0 a
    | 14, _ => prg_14_0 a
    | 15, _ => prg_15_0 a
    | 16, _ => prg_16_0 a
    | 17, _ => prg_17_0 a
    | 18, _ => prg_18_0 a
    | 19, _ => prg_19_0 a
    | 20, _ => prg_20_0 a
    | n + 21, hn => absurd hn (by omega)
  by_cases ht : t < n
  · exact match n, t, hn, ht with
    | 1, 0, _, _ => prg_1_0 a
    | 2, 0, _, _ => prg_2_0 a
    | 2, 1, _, _ => prg_2_1 a
    | 3, 0, _, _ => prg_3_0 a
    | 3, 1, _, _ => prg_3_1 a
    | 3, 2, _, _ => prg_3_2 a
    | 4, 0, _, _ => prg_4_0 a
    | 4, 1, _, _ => prg_4_1 a
    | 4, 2, _, _ => prg_4_2 a
    | 4, 3, _, _ => prg_4_3 a
    | 5, 0, _, _ => prg_5_0 a
    | 5, 1, _, _ => prg_5_1 a
    | 5, 2, _, _ => prg_5_2 a
    | 5, 3, _, _ => prg_5_3 a
    | 5, 4, _, _ => prg_5_4 a
    | 6, 0, _, _ => prg_6_0 a
    | 6, 1, _, _ => prg_6_1 a
    | 6, 2, _, _ => prg_6_2 a
    | 6, 3, _, _ => prg_6_3 a
    | 6, 4, _, _ => prg_6_4 a
    | 6, 5, _, _ => prg_6_5 a
    | 7, 0, _, _ => prg_7_0 a
    | 7, 1, _, _ => prg_7_1 a
    | 7, 2, _, _ => prg_7_2 a
    | 7, 3, _, _ => prg_7_3 a
    | 7, 4, _, _ => prg_7_4 a
    | 7, 5, _, _ => prg_7_5 a
    | 7, 6, _, _ => prg_7_6 a
    | 8, 0, _, _ => prg_8_0 a
    | 8, 1, _, _ => prg_8_1 a
    | 8, 2, _, _ => prg_8_2 a
    | 8, 3, _, _ => prg_8_3 a
    | 8, 4, _, _ => prg_8_4 a
    | 8, 5, _, _ => prg_8_5 a
    | 8, 6, _, _ => prg_8_6 a
    | 8, 7, _, _ => prg_8_7 a
    | 9, 0, _, _ => prg_9_0 a
    | 9, 1, _, _ => prg_9_1 a
    | 9, 2, _, _ => prg_9_2 a
    | 9, 3, _, _ => prg_9_3 a
    | 9, 4, _, _ => prg_9_4 a
    | 9, 5, _, _ => prg_9_5 a
    | 9, 6, _, _ => prg_9_6 a
    | 9, 7, _, _ => prg_9_7 a
    | 9, 8, _, _ => prg_9_8 a
    | 10, 0, _, _ => prg_10_0 a
    | 10, 1, _, _ => prg_10_1 a
    | 10, 2, _, _ => prg_10_2 a
    | 10, 3, _, _ => prg_10_3 a
    | 10, 4, _, _ => prg_10_4 a
    | 10, 5, _, _ => prg_10_5 a
    | 10, 6, _, _ => prg_10_6 a
    | 10, 7, _, _ => prg_10_7 a
    | 10, 8, _, _ => prg_10_8 a
    | 10, 9, _, _ => prg_10_9 a
    | 11, 0, _, _ => prg_11_0 a
    | 11, 1, _, _ => prg_11_1 a
    | 11, 2, _, _ => prg_11_2 a
    | 11, 3, _, _ => prg_11_3 a
    | 11, 4, _, _ => prg_11_4 a
    | 11, 5, _, _ => prg_11_5 a
    | 11, 6, _, _ => prg_11_6 a
    | 11, 7, _, _ => prg_11_7 a
    | 11, 8, _, _ => prg_11_8 a
    | 11, 9, _, _ => prg_11_9 a
    | 11, 10, _, _ => prg_11_10 a
    | 12, 0, _, _ => prg_12_0 a
    | 12, 1, _, _ => prg_12_1 a
    | 12, 2, _, _ => prg_12_2 a
    | 12, 3, _, _ => prg_12_3 a
    | 12, 4, _, _ => prg_12_4 a
    | 12, 5, _, _ => prg_12_5 a
    | 12, 6, _, _ => prg_12_6 a
    | 12, 7, _, _ => prg_12_7 a
    | 12, 8, _, _ => prg_12_8 a
    | 12, 9, _, _ => prg_12_9 a
    | 12, 10, _, _ => prg_12_10 a
    | 12, 11, _, _ => prg_12_11 a
    | 13, 0, _, _ => prg_13_0 a
    | 13, 1, _, _ => prg_13_1 a
    | 13, 2, _, _ => prg_13_2 a
    | 13, 3, _, _ => prg_13_3 a
    | 13, 4, _, _ => prg_13_4 a
    | 13, 5, _, _ => prg_13_5 a
    | 13, 6, _, _ => prg_13_6 a
    | 13, 7, _, _ => prg_13_7 a
    | 13, 8, _, _ => prg_13_8 a
    | 13, 9, _, _ => prg_13_9 a
    | 13, 10, _, _ => prg_13_10 a
    | 13, 11, _, _ => prg_13_11 a
    | 13, 12, _, _ => prg_13_12 a
    | 14, 0, _, _ => prg_14_0 a
    | 14, 1, _, _ => prg_14_1 a
    | 14, 2, _, _ => prg_14_2 a
    | 14, 3, _, _ => prg_14_3 a
    | 14, 4, _, _ => prg_14_4 a
    | 14, 5, _, _ => prg_14_5 a
    | 14, 6, _, _ => prg_14_6 a
    | 14, 7, _, _ => prg_14_7 a
    | 14, 8, _, _ => prg_14_8 a
    | 14, 9, _, _ => prg_14_9 a
    | 14, 10, _, _ => prg_14_10 a
    | 14, 11, _, _ => prg_14_11 a
    | 14, 12, _, _ => prg_14_12 a
    | 14, 13, _, _ => prg_14_13 a
    | 15, 0, _, _ => prg_15_0 a
    | 15, 1, _, _ => prg_15_1 a
    | 15, 2, _, _ => prg_15_2 a
    | 15, 3, _, _ => prg_15_3 a
    | 15, 4, _, _ => prg_15_4 a
    | 15, 5, _, _ => prg_15_5 a
    | 15, 6, _, _ => prg_15_6 a
    | 15, 7, _, _ => prg_15_7 a
    | 15, 8, _, _ => prg_15_8 a
    | 15, 9, _, _ => prg_15_9 a
    | 15, 10, _, _ => prg_15_10 a
    | 15, 11, _, _ => prg_15_11 a
    | 15, 12, _, _ => prg_15_12 a
    | 15, 13, _, _ => prg_15_13 a
    | 15, 14, _, _ => prg_15_14 a
    | 16, 0, _, _ => prg_16_0 a
    | 16, 1, _, _ => prg_16_1 a
    | 16, 2, _, _ => prg_16_2 a
    | 16, 3, _, _ => prg_16_3 a
    | 16, 4, _, _ => prg_16_4 a
    | 16, 5, _, _ => prg_16_5 a
    | 16, 6, _, _ => prg_16_6 a
    | 16, 7, _, _ => prg_16_7 a
    | 16, 8, _, _ => prg_16_8 a
    | 16, 9, _, _ => prg_16_9 a
    | 16, 10, _, _ => prg_16_10 a
    | 16, 11, _, _ => prg_16_11 a
    | 16, 12, _, _ => prg_16_12 a
    | 16, 13, _, _ => prg_16_13 a
    | 16, 14, _, _ => prg_16_14 a
    | 16, 15, _, _ => prg_16_15 a
    | 17, 0, _, _ => prg_17_0 a
    | 17, 1, _, _ => prg_17_1 a
    | 17, 2, _, _ => prg_17_2 a
    | 17, 3, _, _ => prg_17_3 a
    | 17, 4, _, _ => prg_17_4 a
    | 17, 5, _, _ => prg_17_5 a
    | 17, 6, _, _ => prg_17_6 a
    | 17, 7, _, _ => prg_17_7 a
    | 17, 8, _, _ => prg_17_8 a
    | 17, 9, _, _ => prg_17_9 a
    | 17, 10, _, _ => prg_17_10 a
    | 17, 11, _, _ => prg_17_11 a
    | 17, 12, _, _ => prg_17_12 a
    | 17, 13, _, _ => prg_17_13 a
    | 17, 14, _, _ => prg_17_14 a
    | 17, 15, _, _ => prg_17_15 a
    | 17, 16, _, _ => prg_17_16 a
    | 18, 0, _, _ => prg_18_0 a
    | 18, 1, _, _ => prg_18_1 a
    | 18, 2, _, _ => prg_18_2 a
    | 18, 3, _, _ => prg_18_3 a
    | 18, 4, _, _ => prg_18_4 a
    | 18, 5, _, _ => prg_18_5 a
    | 18, 6, _, _ => prg_18_6 a
    | 18, 7, _, _ => prg_18_7 a
    | 18, 8, _, _ => prg_18_8 a
    | 18, 9, _, _ => prg_18_9 a
    | 18, 10, _, _ => prg_18_10 a
    | 18, 11, _, _ => prg_18_11 a
    | 18, 12, _, _ => prg_18_12 a
    | 18, 13, _, _ => prg_18_13 a
    | 18, 14, _, _ => prg_18_14 a
    | 18, 15, _, _ => prg_18_15 a
    | 18, 16, _, _ => prg_18_16 a
    | 18, 17, _, _ => prg_18_17 a
    | 19, 0, _, _ => prg_19_0 a
    | 19, 1, _, _ => prg_19_1 a
    | 19, 2, _, _ => prg_19_2 a
    | 19, 3, _, _ => prg_19_3 a
    | 19, 4, _, _ => prg_19_4 a
    | 19, 5, _, _ => prg_19_5 a
    | 19, 6, _, _ => prg_19_6 a
    | 19, 7, _, _ => prg_19_7 a
    | 19, 8, _, _ => prg_19_8 a
    | 19, 9, _, _ => prg_19_9 a
    | 19, 10, _, _ => prg_19_10 a
    | 19, 11, _, _ => prg_19_11 a
    | 19, 12, _, _ => prg_19_12 a
    | 19, 13, _, _ => prg_19_13 a
    | 19, 14, _, _ => prg_19_14 a
    | 19, 15, _, _ => prg_19_15 a
    | 19, 16, _, _ => prg_19_16 a
    | 19, 17, _, _ => prg_19_17 a
    | 19, 18, _, _ => prg_19_18 a
    | 20, 0, _, _ => prg_20_0 a
    | 20, 1, _, _ => prg_20_1 a
    | 20, 2, _, _ => prg_20_2 a
    | 20, 3, _, _ => prg_20_3 a
    | 20, 4, _, _ => prg_20_4 a
    | 20, 5, _, _ => prg_20_5 a
    | 20, 6, _, _ => prg_20_6 a
    | 20, 7, _, _ => prg_20_7 a
    | 20, 8, _, _ => prg_20_8 a
    | 20, 9, _, _ => prg_20_9 a
    | 20, 10, _, _ => prg_20_10 a
    | 20, 11, _, _ => prg_20_11 a
    | 20, 12, _, _ => prg_20_12 a
    | 20, 13, _, _ => prg_20_13 a
    | 20, 14, _, _ => prg_20_14 a
    | 20, 15, _, _ => prg_20_15 a
    | 20, 16, _, _ => prg_20_16 a
    | 20, 17, _, _ => prg_20_17 a
    | 20, 18, _, _ => prg_20_18 a
    | 20, 19, _, _ => prg_20_19 a
    | n + 21, _, hn, _ => absurd hn (by omega)
    | 0, t + 0, _, ht => absurd ht (by omega)
    | 1, t + 1, _, ht => absurd ht (by omega)
    | 2, t + 2, _, ht => absurd ht (by omega)
    | 3, t + 3, _, ht => absurd ht (by omega)
    | 4, t + 4, _, ht => absurd ht (by omega)
    | 5, t + 5, _, ht => absurd ht (by omega)
    | 6, t + 6, _, ht => absurd ht (by omega)
    | 7, t + 7, _, ht => absurd ht (by omega)
    | 8, t + 8, _, ht => absurd ht (by omega)
    | 9, t + 9, _, ht => absurd ht (by omega)
    | 10, t + 10, _, ht => absurd ht (by omega)
    | 11, t + 11, _, ht => absurd ht (by omega)
    | 12, t + 12, _, ht => absurd ht (by omega)
    | 13, t + 13, _, ht => absurd ht (by omega)
    | 14, t + 14, _, ht => absurd ht (by omega)
    | 15, t + 15, _, ht => absurd ht (by omega)
    | 16, t + 16, _, ht => absurd ht (by omega)
    | 17, t + 17, _, ht => absurd ht (by omega)
    | 18, t + 18, _, ht => absurd ht (by omega)
    | 19, t + 19, _, ht => absurd ht (by omega)
    | 20, t + 20, _, ht => absurd ht (by omega)
  · rw [progsL_ge (by omega)]; exact h0 n hn
attribute [local irreducible] E_prg
noncomputable def F_prg : denAs [.p (.many [.nilS, .h 0, .h 1])] → denObs [.row mapT, .row progT] → Tree (AV × List Ob) := fun x y => match x, y with
  | (((), (), (), ()), ()), (a, p, ()) => ckP (goodP p) (.ret (prgR a p))
theorem fe_prg : ∀ a y, (F_prg (ea_prg a) (eo_prg a)).run = some y → (E_prg a).run = some y := by
  rintro ⟨a, p⟩ y h
  obtain ⟨⟨n, t, hn, rfl⟩, h2⟩ := ckP_run (p := goodP p) (t := .ret (prgR a p)) h
  have hy : some (prgR a (progsL n t)) = some y := h2
  rw [← hy]
  exact prgs n t hn a
theorem ok_prg : SummOk Kn Tryz.prog 23 (sumT [.any] false [.p (.many [.nilS, .h 0, .h 1])] [.row mapT, .row progT] F_prg) := sumT_view tok_loadsm Tryz.checked.mixed Tryz.func23 (by kernel_rfl) (by rfl) 40 [] ea_prg eo_prg
  (by rintro ⟨⟨⟨⟩, ⟨⟩, ⟨⟩, ⟨⟩⟩, ⟨⟩⟩ ⟨a, p, ⟨⟩⟩; exact ⟨(a, p), rfl, rfl⟩) noL 2 (by rintro ⟨a, p, ⟨⟩⟩; rfl) (noL_ok _ _ _ _ _ _) E_prg ev_prg fe_prg
noncomputable def L_prg : List (Nat × Summ) := (23, (sumT [.any] false [.p (.many [.nilS, .h 0, .h 1])] [.row mapT, .row progT] F_prg)) :: L_loadsm
theorem tok_prg : TOk Kn Tryz.prog (lk L_prg) := lk_cons ok_prg tok_loadsm

end Go.Proofs.YtdkgeoadeljcpaaGreat.obm
