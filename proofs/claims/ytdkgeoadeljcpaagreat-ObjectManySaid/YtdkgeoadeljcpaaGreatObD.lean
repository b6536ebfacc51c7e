/-
  Objects of rings and of plain programs; how many there may be (written by our own gen_obd.py).
-/
import Derived.Test.YtdkgeoadeljcpaaGreatObC
namespace Go.Proofs.YtdkgeoadeljcpaaGreat.obm
open Go Go.Sy Go.Sz Go.In Go.Ob Go.Proofs.YtdkgeoadeljcpaaGreat
set_option linter.unusedVariables false
set_option linter.unusedSimpArgs false
set_option linter.constructorNameAsVariable false
set_option maxRecDepth 100000

def isRing (d k v e : Int) (t : Bool) (y : Int) : Bool := d == 4 && k == 0 && v == 0 && e == 8 && t == false && y == 0
def mcA (a : Maps) (p : Progs) : Int := bif Nat.ble a.length 16 then (bif progB p then 0 else progI p) else 16
def mcE (a : Maps) (p : Progs) : Int := bif Nat.ble a.length 16 then (bif progB p then 0 else 52) else 51
def mchkR (a : Maps) (p : Progs) : AV × List Ob := (.t [.one (.v (.int .i64 (mcA a p))), .one (.v (.int .i64 (mcE a p)))], [.row mapT a, .row progT p])
theorem rings_succ (k : Nat) : rings (k + 1) = rings k ++ [ringM] := List.replicate_succ'
theorem rings_len (k : Nat) : (rings k).length = k := List.length_replicate
theorem plains_succ (k : Nat) : plains (k + 1) = plains k ++ [(nameN k, plainI, ())] := by
  unfold plains
  rw [List.range_succ, List.map_append]; rfl
theorem plains_len (k : Nat) : (plains k).length = k := by
  unfold plains
  rw [List.length_map, List.length_range]
theorem cut_alpha {k : Nat} (hk : k < 20) : alpha.extract k (k + 1) = nameN k :=
  cases20 (P := fun k => alpha.extract k (k + 1) = nameN k) (by decide +kernel) hk
theorem tw : ∀ n, n < 21 → ∀ t, t < 21 → twin 1 ((progsL n t).drop 1) = (bif Nat.blt 0 t && Nat.blt t n then t else 0) := by decide +kernel
theorem progsL_len (n t : Nat) : (progsL n t).length = n := by
  unfold progsL
  cases (Nat.blt 0 t && Nat.blt t n) with
  | true => exact (List.length_set).trans (plains_len n)
  | false => exact plains_len n
theorem tw' {n t : Nat} (hn : n ≤ 20) : twin 1 ((progsL n t).drop 1) = (bif Nat.blt 0 t && Nat.blt t n then t else 0) := by
  by_cases h : t < 21
  · exact tw n (by omega) t h
  · rw [progsL_ge (show n ≤ t by omega), tw n (by omega) 0 (by omega)]
    have : Nat.blt t n = false := by cases hb : Nat.blt t n with | false => rfl | true => exact absurd (Nat.le_of_ble_eq_true hb) (by omega)
    rw [this]; cases Nat.blt 0 t <;> rfl
theorem blt_iff {a b : Nat} : Nat.blt a b = decide (a < b) := blt_dec a b
theorem hE {k n t : Nat} (hn : n ≤ 20) : mcE (rings k) (progsL n t) = if 16 < k then 51 else if n = 0 ∨ 16 < n ∨ (0 < t ∧ t < n) then 52 else 0 := by
  unfold mcE progB
  rw [rings_len, progsL_len, tw' hn]
  simp only [blt_iff, ble_dec]
  by_cases h1 : 16 < k
  · rw [if_pos h1, decide_eq_false (by omega)]; rfl
  rw [if_neg h1, decide_eq_true (show k ≤ 16 by omega)]
  by_cases h2 : 0 < t ∧ t < n
  · rw [if_pos (.inr (.inr h2)), decide_eq_true h2.1, decide_eq_true h2.2]
    show (bif decide (0 < n) && decide (n ≤ 16) && Nat.beq t 0 then (0 : Int) else 52) = 52
    rw [show Nat.beq t 0 = false from by cases t with | zero => exact absurd h2.1 (by omega) | succ t => rfl]
    simp
  have h3 : (decide (0 < t) && decide (t < n)) = false := by
    rw [and_dec]; exact decide_eq_false h2
  rw [h3]
  show (bif decide (0 < n) && decide (n ≤ 16) && true then (0 : Int) else 52) = _
  by_cases h4 : n = 0 ∨ 16 < n
  · rw [if_pos (by omega)]
    rcases h4 with rfl | h4
    · rfl
    · rw [decide_eq_false (show ¬ n ≤ 16 by omega)]; simp
  · rw [if_neg (by omega), decide_eq_true (show 0 < n by omega), decide_eq_true (show n ≤ 16 by omega)]; rfl
theorem hA {k n t : Nat} (hn : n ≤ 20) : mcA (rings k) (progsL n t) = if 16 < k then 16 else if n = 0 ∨ 16 < n ∨ ¬ (0 < t ∧ t < n) then 0 else (t : Int) := by
  unfold mcA progB progI
  rw [rings_len, progsL_len, tw' hn]
  simp only [blt_iff, ble_dec]
  by_cases h1 : 16 < k
  · rw [if_pos h1, decide_eq_false (by omega)]; rfl
  rw [if_neg h1, decide_eq_true (show k ≤ 16 by omega)]
  by_cases h4 : n = 0 ∨ 16 < n
  · rw [if_pos (by omega)]
    rcases h4 with rfl | h4
    · rw [show (decide (0 < t) && decide (t < 0)) = false from by rw [and_dec]; exact decide_eq_false (by omega)]; rfl
    · rw [decide_eq_false (show ¬ n ≤ 16 by omega)]; simp
  rw [decide_eq_true (show 0 < n by omega), decide_eq_true (show n ≤ 16 by omega)]
  by_cases h2 : 0 < t ∧ t < n
  · rw [if_neg (by omega), decide_eq_true h2.1, decide_eq_true h2.2]
    show (bif true && Nat.beq t 0 then (0 : Int) else (t : Int)) = t
    rw [show Nat.beq t 0 = false from by cases t with | zero => exact absurd h2.1 (by omega) | succ t => rfl]
    rfl
  · rw [if_pos (by omega), show (decide (0 < t) && decide (t < n)) = false from by rw [and_dec]; exact decide_eq_false h2]
    rfl
theorem set_progs {n t : Nat} (h0 : 0 < t) (h : t < n) : (plains n).set t (⟨#[97]⟩, ((plains n).getD t (⟨#[]⟩, [], ())).2) = progsL n t := by
  unfold progsL
  rw [blt_iff, blt_iff, decide_eq_true h0, decide_eq_true h]
  have : ((plains n).getD t (⟨#[]⟩, [], ())) = (nameN t, plainI, ()) := by
    simp [plains, List.getD, List.getElem?_map, List.getElem?_range, h]
  rw [this]; rfl
theorem plains_L (n : Nat) : plains n = progsL n 0 := rfl
def F_defm : denAs [.p (.many [.i .i64, .i .i64, .i .i64, .i .i64, .b, .i .i64]), .c (.d typeT)] → denObs [] → Tree (AV × List Ob) := fun x y => match x, y with
  | ((d, k, v, e, t, y, ()), l, ()), () => .ite (isRing d k v e t y) (.ret (AV.c (.v (.int .i64 0)), [])) .fail
theorem we_defm : ∀ x y r, (F_defm x y).run = some r → (F_def x y).run = some r := by
  rintro ⟨⟨d, k, v, e, t, y, ⟨⟩⟩, l, ⟨⟩⟩ ⟨⟩ r h
  have h' : (Tree.ite (isRing d k v e t y) (Tree.ret (AV.c (.v (.int .i64 0)), ([] : List Ob))) Tree.fail).run = some r := h
  clear h
  cases hb : isRing d k v e t y with
  | false => rw [hb] at h'; exact absurd h' (by intro h; cases h)
  | true =>
    rw [hb] at h'
    unfold isRing at hb
    simp only [Bool.and_eq_true, beq_iff_eq] at hb
    obtain ⟨⟨⟨⟨⟨rfl, rfl⟩, rfl⟩, rfl⟩, rfl⟩, rfl⟩ := hb
    refine Eq.trans ?_ h'
    exact (ckP_true rfl _).trans (by rfl)
theorem ok_defm : SummOk Kn Tryz.prog 13 (sumT [.any, .dp typeT] false [.p (.many [.i .i64, .i .i64, .i .i64, .i .i64, .b, .i .i64]), .c (.d typeT)] [] F_defm) := weakT ok_def we_defm
noncomputable def L_defm : List (Nat × Summ) := (13, (sumT [.any, .dp typeT] false [.p (.many [.i .i64, .i .i64, .i .i64, .i .i64, .b, .i .i64]), .c (.d typeT)] [] F_defm)) :: L_prg
theorem tok_defm : TOk Kn Tryz.prog (lk L_defm) := lk_cons ok_defm tok_prg

def ea_mchk : Maps × Progs → denAs [.p (.many [.nilS, .h 0, .h 1])] := fun ⟨a, p⟩ => (((), (), (), ()), ())
def eo_mchk : Maps × Progs → denObs [.row mapT, .row progT] := fun ⟨a, p⟩ => (a, p, ())
noncomputable def E_mchk : Maps × Progs → Tree (AV × List Ob) := fun a => (evalFnL Tryz.prog (lk L_defm) 40 noL Tryz.f11 (Tryz.f11.body.getD .skip) [] (encAs [.p (.many [.nilS, .h 0, .h 1])] (ea_mchk a)) (encOs [.row mapT, .row progT] (eo_mchk a)))
theorem ev_mchk : ∀ a, (evalFnL Tryz.prog (lk L_defm) 40 noL Tryz.f11 (Tryz.f11.body.getD .skip) [] (encAs [.p (.many [.nilS, .h 0, .h 1])] (ea_mchk a)) (encOs [.row mapT, .row progT] (eo_mchk a))).run = (E_mchk a).run := by
  intro a; rfl
theorem mc_0 (p : Progs) : (E_mchk (rings 0, p)).run = (ckP (goodP p) (.ite (!progB p) (.ret (.t [.one (.v (.int .i64 (progI p))), .one (.v (.int .i64 52))], [.row mapT (rings 0), .row progT p])) (.ret (.t [.one (.v (.int .i64 0)), .one (.v (.int .i64 0))], [.row mapT (rings 0), .row progT p])))).run := by kernel_rfl
theorem mc_1 (p : Progs) : (E_mchk (rings 1, p)).run = (ckP (goodP p) (.ite (!progB p) (.ret (.t [.one (.v (.int .i64 (progI p))), .one (.v (.int .i64 52))], [.row mapT (rings 1), .row progT p])) (.ret (.t [.one (.v (.int .i64 0)), .one (.v (.int .i64 0))], [.row mapT (rings 1), .row progT p])))).run := by kernel_rfl
theorem mc_2 (p : Progs) : (E_mchk (rings 2, p)).run = (ckP (goodP p) (.ite (!progB p) (.ret (.t [.one (.v (.int .i64 (progI p))), .one (.v (.int .i64 52))], [.row mapT (rings 2), .row progT p])) (.ret (.t [.one (.v (.int .i64 0)), .one (.v (.int .i64 0))], [.row mapT (rings 2), .row progT p])))).run := by kernel_rfl
theorem mc_3 (p : Progs) : (E_mchk (rings 3, p)).run = (ckP (goodP p) (.ite (!progB p) (.ret (.t [.one (.v (.int .i64 (progI p))), .one (.v (.int .i64 52))], [.row mapT (rings 3), .row progT p])) (.ret (.t [.one (.v (.int .i64 0)), .one (.v (.int .i64 0))], [.row mapT (rings 3), .row progT p])))).run := by kernel_rfl
theorem mc_4 (p : Progs) : (E_mchk (rings 4, p)).run = (ckP (goodP p) (.ite (!progB p) (.ret (.t [.one (.v (.int .i64 (progI p))), .one (.v (.int .i64 52))], [.row mapT (rings 4), .row progT p])) (.ret (.t [.one (.v (.int .i64 0)), .one (.v (.int .i64 0))], [.row mapT (rings 4), .row progT p])))).run := by kernel_rfl
theorem mc_5 (p : Progs) : (E_mchk (rings 5, p)).run = (ckP (goodP p) (.ite (!progB p) (.ret (.t [.one (.v (.int .i64 (progI p))), .one (.v (.int .i64 52))], [.row mapT (rings 5), .row progT p])) (.ret (.t [.one (.v (.int .i64 0)), .one (.v (.int .i64 0))], [.row mapT (rings 5), .row progT p])))).run := by kernel_rfl
theorem mc_6 (p : Progs) : (E_mchk (rings 6, p)).run = (ckP (goodP p) (.ite (!progB p) (.ret (.t [.one (.v (.int .i64 (progI p))), .one (.v (.int .i64 52))], [.row mapT (rings 6), .row progT p])) (.ret (.t [.one (.v (.int .i64 0)), .one (.v (.int .i64 0))], [.row mapT (rings 6), .row progT p])))).run := by kernel_rfl
theorem mc_7 (p : Progs) : (E_mchk (rings 7, p)).run = (ckP (goodP p) (.ite (!progB p) (.ret (.t [.one (.v (.int .i64 (progI p))), .one (.v (.int .i64 52))], [.row mapT (rings 7), .row progT p])) (.ret (.t [.one (.v (.int .i64 0)), .one (.v (.int .i64 0))], [.row mapT (rings 7), .row progT p])))).run := by kernel_rfl
theorem mc_8 (p : Progs) : (E_mchk (rings 8, p)).run = (ckP (goodP p) (.ite (!progB p) (.ret (.t [.one (.v (.int .i64 (progI p))), .one (.v (.int .i64 52))], [.row mapT (rings 8), .row progT p])) (.ret (.t [.one (.v (.int .i64 0)), .one (.v (.int .i64 0))], [.row mapT (rings 8), .row progT p])))).run := by kernel_rfl
theorem mc_9 (p : Progs) : (E_mchk (rings 9, p)).run = (ckP (goodP p) (.ite (!progB p) (.ret (.t [.one (.v (.int .i64 (progI p))), .one (.v (.int .i64 52))], [.row mapT (rings 9), .row progT p])) (.ret (.t [.one (.v (.int .i64 0)), .one (.v (.int .i64 0))], [.row mapT (rings 9), .row progT p])))).run := by kernel_rfl
theorem mc_10 (p : Progs) : (E_mchk (rings 10, p)).run = (ckP (goodP p) (.ite (!progB p) (.ret (.t [.one (.v (.int .i64 (progI p))), .one (.v (.int .i64 52))], [.row mapT (rings 10), .row progT p])) (.ret (.t [.one (.v (.int .i64 0)), .one (.v (.int .i64 0))], [.row mapT (rings 10), .row progT p])))).run := by kernel_rfl
theorem mc_11 (p : Progs) : (E_mchk (rings 11, p)).run = (ckP (goodP p) (.ite (!progB p) (.ret (.t [.one (.v (.int .i64 (progI p))), .one (.v (.int .i64 52))], [.row mapT (rings 11), .row progT p])) (.ret (.t [.one (.v (.int .i64 0)), .one (.v (.int .i64 0))], [.row mapT (rings 11), .row progT p])))).run := by kernel_rfl
theorem mc_12 (p : Progs) : (E_mchk (rings 12, p)).run = (ckP (goodP p) (.ite (!progB p) (.ret (.t [.one (.v (.int .i64 (progI p))), .one (.v (.int .i64 52))], [.row mapT (rings 12), .row progT p])) (.ret (.t [.one (.v (.int .i64 0)), .one (.v (.int .i64 0))], [.row mapT (rings 12), .row progT p])))).run := by kernel_rfl
theorem mc_13 (p : Progs) : (E_mchk (rings 13, p)).run = (ckP (goodP p) (.ite (!progB p) (.ret (.t [.one (.v (.int .i64 (progI p))), .one (.v (.int .i64 52))], [.row mapT (rings 13), .row progT p])) (.ret (.t [.one (.v (.int .i64 0)), .one (.v (.int .i64 0))], [.row mapT (rings 13), .row progT p])))).run := by kernel_rfl
theorem mc_14 (p : Progs) : (E_mchk (rings 14, p)).run = (ckP (goodP p) (.ite (!progB p) (.ret (.t [.one (.v (.int .i64 (progI p))), .one (.v (.int .i64 52))], [.row mapT (rings 14), .row progT p])) (.ret (.t [.one (.v (.int .i64 0)), .one (.v (.int .i64 0))], [.row mapT (rings 14), .row progT p])))).run := by kernel_rfl
theorem mc_15 (p : Progs) : (E_mchk (rings 15, p)).run = (ckP (goodP p) (.ite (!progB p) (.ret (.t [.one (.v (.int .i64 (progI p))), .one (.v (.int .i64 52))], [.row mapT (rings 15), .row progT p])) (.ret (.t [.one (.v (.int .i64 0)), .one (.v (.int .i64 0))], [.row mapT (rings 15), .row progT p])))).run := by kernel_rfl
theorem mc_16 (p : Progs) : (E_mchk (rings 16, p)).run = (ckP (goodP p) (.ite (!progB p) (.ret (.t [.one (.v (.int .i64 (progI p))), .one (.v (.int .i64 52))], [.row mapT (rings 16), .row progT p])) (.ret (.t [.one (.v (.int .i64 0)), .one (.v (.int .i64 0))], [.row mapT (rings 16), .row progT p])))).run := by kernel_rfl
theorem mc_17 (p : Progs) : (E_mchk (rings 17, p)).run = (Tree.ret (AV.t [.one (.v (.int .i64 16)), .one (.v (.int .i64 51))], [Ob.row mapT (rings 17), Ob.row progT p])).run := by kernel_rfl
theorem mc_18 (p : Progs) : (E_mchk (rings 18, p)).run = (Tree.ret (AV.t [.one (.v (.int .i64 16)), .one (.v (.int .i64 51))], [Ob.row mapT (rings 18), Ob.row progT p])).run := by kernel_rfl
theorem mc_19 (p : Progs) : (E_mchk (rings 19, p)).run = (Tree.ret (AV.t [.one (.v (.int .i64 16)), .one (.v (.int .i64 51))], [Ob.row mapT (rings 19), Ob.row progT p])).run := by kernel_rfl
theorem mc_20 (p : Progs) : (E_mchk (rings 20, p)).run = (Tree.ret (AV.t [.one (.v (.int .i64 16)), .one (.v (.int .i64 51))], [Ob.row mapT (rings 20), Ob.row progT p])).run := by kernel_rfl
theorem mcs (k : Nat) (hk : k ≤ 20) (p : Progs) (hp : goodP p) : (E_mchk (rings k, p)).run = some (mchkR (rings k) p) := by
  have h1 : ∀ k, Nat.ble (rings k).length 16 = true → (ckP (goodP p) (.ite (!progB p) (.ret (AV.t [.one (.v (.int .i64 (progI p))), .one (.v (.int .i64 52))], [Ob.row mapT (rings k), Ob.row progT p])) (.ret (AV.t [.one (.v (.int .i64 0)), .one (.v (.int .i64 0))], [Ob.row mapT (rings k), Ob.row progT p])))).run = some (mchkR (rings k) p) := by
    intro k hk
    rw [ckP_true hp]
    unfold mchkR mcA mcE
    rw [hk]
    cases progB p <;> rfl
  exact match k, hk with
    | 0, _ => (mc_0 p).trans (h1 0 rfl)
    | 1, _ => (mc_1 p).trans (h1 1 rfl)
    | 2, _ => (mc_2 p).trans (h1 2 rfl)
    | 3, _ => (mc_3 p).trans (h1 3 rfl)
    | 4, _ => (mc_4 p).trans (h1 4 rfl)
    | 5, _ => (mc_5 p).trans (h1 5 rfl)
    | 6, _ => (mc_6 p).trans (h1 6 rfl)
    | 7, _ => (mc_7 p).trans (h1 7 rfl)
    | 8, _ => (mc_8 p).trans (h1 8 rfl)
    | 9, _ => (mc_9 p).trans (h1 9 rfl)
    | 10, _ => (mc_10 p).trans (h1 10 rfl)
    | 11, _ => (mc_11 p).trans (h1 11 rfl)
    | 12, _ => (mc_12 p).trans (h1 12 rfl)
    | 13, _ => (mc_13 p).trans (h1 13 rfl)
    | 14, _ => (mc_14 p).trans (h1 14 rfl)
    | 15, _ => (mc_15 p).trans (h1 15 rfl)
    | 16, _ => (mc_16 p).trans (h1 16 rfl)
    | 17, _ => (mc_17 p).trans rfl
    | 18, _ => (mc_18 p).trans rfl
    | 19, _ => (mc_19 p).trans rfl
    | 20, _ => (mc_20 p).trans rfl
    | k + 21, hk => absurd hk (by omega)
attribute [local irreducible] E_mchk
noncomputable def F_mchk : denAs [.p (.many [.nilS, .h 0, .h 1])] → denObs [.row mapT, .row progT] → Tree (AV × List Ob) := fun x y => match x, y with
  | (((), (), (), ()), ()), (a, p, ()) => ckP (goodM a ∧ goodP p) (.ret (mchkR a p))
theorem fe_mchk : ∀ a y, (F_mchk (ea_mchk a) (eo_mchk a)).run = some y → (E_mchk a).run = some y := by
  rintro ⟨a, p⟩ y h
  obtain ⟨⟨⟨k, hk, rfl⟩, hp⟩, h2⟩ := ckP_run (p := goodM a ∧ goodP p) (t := .ret (mchkR a p)) h
  have hy : some (mchkR (rings k) p) = some y := h2
  rw [← hy]
  exact mcs k hk p hp
theorem ok_mchk : SummOk Kn Tryz.prog 11 (sumT [.any] false [.p (.many [.nilS, .h 0, .h 1])] [.row mapT, .row progT] F_mchk) := sumT_view tok_defm Tryz.checked.mixed Tryz.func11 (by kernel_rfl) (by rfl) 40 [] ea_mchk eo_mchk
  (by rintro ⟨⟨⟨⟩, ⟨⟩, ⟨⟩, ⟨⟩⟩, ⟨⟩⟩ ⟨a, p, ⟨⟩⟩; exact ⟨(a, p), rfl, rfl⟩) noL 2 (by rintro ⟨a, p, ⟨⟩⟩; rfl) (noL_ok _ _ _ _ _ _) E_mchk ev_mchk fe_mchk
noncomputable def L_mchk : List (Nat × Summ) := (11, (sumT [.any] false [.p (.many [.nilS, .h 0, .h 1])] [.row mapT, .row progT] F_mchk)) :: L_defm
theorem tok_mchk : TOk Kn Tryz.prog (lk L_mchk) := lk_cons ok_mchk tok_defm

noncomputable abbrev c_law : Code := Tryz.f8.body.getD .skip
def p_law1 : List Nat := [0, 1, 0, 1, 1, 1, 1]
def sh_law1 : Shape := ⟨[(0, .c (.i .i64)), (1, .c (.i .i64)), (2, .c (.i .i64)), (7, .c (.p 0 0)), (8, .c (.i .i64))], [.lit [.nilS, .h 1, .h 2], .row mapT, .row progT]⟩
@[reducible] def A_law1 : Type := Int × Int × Int × Int × Maps × Progs
def e_law1 : A_law1 → sh_law1.den := fun ⟨m, n, t, i, a, p⟩ => ((m, n, t, (), i, ()), (((), (), (), ()), a, p, ()))
def v_law1 : sh_law1.den → A_law1 := fun d => match d with
  | ((m, n, t, (), i, ()), (((), (), (), ()), a, p, ())) => (m, n, t, i, a, p)
def I_law1 : A_law1 → Prop := fun ⟨m, n, t, i, a, p⟩ => 0 ≤ i ∧ i ≤ m ∧ m ≤ 20 ∧ a = rings i.toNat
noncomputable def G_law1 : A_law1 → Tree (Ex × St) := fun ⟨m, n, t, i, a, p⟩ => .ret (.exit 0, ⟨[(0, .p (.one (.v (.int .i64 m)))), (1, .p (.one (.v (.int .i64 n)))), (2, .p (.one (.v (.int .i64 t)))), (7, .p (.one (.p 0 0)))], [(0, .lit [.v (.slice none 0 0), .h 1, .h 2]), (1, .row mapT (rings m.toNat)), (2, .row progT (p))], 3⟩)
noncomputable def orc_law1 : Orc := ⟨sh_law1, [(1000001, mapT), (1000002, progT)], [0, 1, 2, 7], [], fun d => ckP (I_law1 (v_law1 d)) (G_law1 (v_law1 d))⟩
def p_law2 : List Nat := [0, 1, 0, 1, 1, 1, 1, 1, 1]
def sh_law2 : Shape := ⟨[(0, .c (.i .i64)), (1, .c (.i .i64)), (2, .c (.i .i64)), (7, .c (.p 0 0)), (9, .c .s), (10, .c (.i .i64))], [.lit [.nilS, .h 1, .h 2], .row mapT, .row progT]⟩
@[reducible] def A_law2 : Type := Int × Int × Int × Int × ByteArray × Maps × Progs
def e_law2 : A_law2 → sh_law2.den := fun ⟨m, n, t, i, s, a, p⟩ => ((m, n, t, (), s, i, ()), (((), (), (), ()), a, p, ()))
def v_law2 : sh_law2.den → A_law2 := fun d => match d with
  | ((m, n, t, (), s, i, ()), (((), (), (), ()), a, p, ())) => (m, n, t, i, s, a, p)
def I_law2 : A_law2 → Prop := fun ⟨m, n, t, i, s, a, p⟩ => 0 ≤ i ∧ i ≤ n ∧ n ≤ 20 ∧ s = alpha ∧ p = plains i.toNat
noncomputable def G_law2 : A_law2 → Tree (Ex × St) := fun ⟨m, n, t, i, s, a, p⟩ => .ret (.exit 2, ⟨[(0, .p (.one (.v (.int .i64 m)))), (1, .p (.one (.v (.int .i64 n)))), (2, .p (.one (.v (.int .i64 t)))), (7, .p (.one (.p 0 0)))], [(0, .lit [.v (.slice none 0 0), .h 1, .h 2]), (1, .row mapT (a)), (2, .row progT (plains n.toNat))], 3⟩)
noncomputable def orc_law2 : Orc := ⟨sh_law2, [], [0, 1, 2, 7], [], fun d => ckP (I_law2 (v_law2 d)) (G_law2 (v_law2 d))⟩
noncomputable def LT_law : LT := oneL p_law1 orc_law1 (oneL p_law2 orc_law2 (noL))
noncomputable def T_law2 : Int × Int × Int × Int × ByteArray × Maps × Progs → Tree (A_law2 ⊕ (Ex × St)) := fun ⟨m, n, t, i, s, a, p⟩ => 
Tree.ite (decide (i < n)) (Tree.ite (decide ((0 : Int) ≤ IntKind.i64.wrap (i + (1 : Int))) && decide (IntKind.i64.wrap (i + (1 : Int)) ≤ (↑s.1.1.length : Int))) (Tree.ite (decide ((0 : Int) ≤ i) && decide (i ≤ (↑(IntKind.i64.wrap (i + (1 : Int))).toNat : Int))) (Tree.ite (bytesOk (List.length p + (1 : Nat)) (40 : Nat) && (List.length p + (1 : Nat)).ble (140737488355328 : Nat)) (Tree.ret (Sum.inl (m, n, t, IntKind.i64.wrap (i + (1 : Int)), s, a, p ++ [(s.extract i.toNat (IntKind.i64.wrap (i + (1 : Int))).toNat, [(BitVec.ofInt (8 : Nat) (183 : Int), BitVec.ofInt (8 : Nat) (0 : Int), BitVec.ofInt (8 : Nat) (0 : Int), (0 : Int), (0 : Int), ()), (BitVec.ofInt (8 : Nat) (149 : Int), BitVec.ofInt (8 : Nat) (0 : Int), BitVec.ofInt (8 : Nat) (0 : Int), (0 : Int), (0 : Int), ())], ())]))) Tree.fail) Tree.fail) Tree.fail) (Tree.ret (Sum.inr (Ex.exit (2 : Nat), { env := [((0 : Nat), AV.p (Part.one (Cell.v (Value.int IntKind.i64 m)))), ((1 : Nat), AV.p (Part.one (Cell.v (Value.int IntKind.i64 n)))), ((2 : Nat), AV.p (Part.one (Cell.v (Value.int IntKind.i64 t)))), ((7 : Nat), AV.p (Part.one (Cell.p (0 : Nat) (0 : Nat))))], hp := [((0 : Nat), Ob.lit [Cell.v (Value.slice none (0 : Nat) (0 : Nat)), Cell.h (1 : Nat), Cell.h (2 : Nat)]), ((1 : Nat), Ob.row Ob.mapT a), ((2 : Nat), Ob.row progT p)], nx := (3 : Nat) })))
theorem turn_law2 : ∀ a : A_law2, (turnT 0 orc_law2 (evalCode Tryz.prog (lk L_mchk) Tryz.f8.ntmps 0 30 LT_law (bodyAt c_law p_law2) false (0 :: p_law2)) (sh_law2.enc (e_law2 a))).run = ((T_law2 a).bind fun s => .ret (turnV sh_law2 e_law2 s)).run := by
  rintro ⟨m, n, t, i, s, a, p⟩
  kernel_rfl

def μ_law2 : A_law2 → Nat := fun ⟨m, n, t, i, s, a, p⟩ => (n - i).toNat
theorem step_law2 : ∀ a : A_law2, I_law2 a → (∃ a', (T_law2 a).run = some (.inl a') ∧ I_law2 a' ∧ μ_law2 a' < μ_law2 a ∧ (G_law2 a').run = (G_law2 a).run) ∨ (∃ y, (T_law2 a).run = some (.inr y) ∧ (G_law2 a).run = some y ∧ ((∃ id, y.1 = .exit id) ∨ y.1 = .ret)) := by
  rintro ⟨m, n, t, i, s, a, p⟩ ⟨h1, h2, h3, rfl, rfl⟩
  by_cases h : i < n
  · refine .inl ⟨(m, n, t, i + 1, alpha, a, plains i.toNat ++ [(nameN i.toNat, plainI, ())]), ?_, ⟨by omega, by omega, h3, rfl, by rw [toNat_succ h1, plains_succ]⟩, ?_, rfl⟩
    · simp only [T_law2]
      rw [wrap64 (by omega) (by omega)]
      have hl := plains_len i.toNat
      have hc := cut_alpha (k := i.toNat) (by omega)
      rw [toNat_succ h1, hc]
      exact (goTd h).trans ((goTa ⟨by omega, by change i + 1 ≤ 26; omega⟩).trans ((goTa ⟨h1, by omega⟩).trans (goTb ⟨by omega, by omega⟩)))
    · change (n - (i + 1)).toNat < (n - i).toNat
      omega
  · have he : i = n := by omega
    subst he
    exact .inr ⟨_, goFd h, rfl, .inl ⟨2, rfl⟩⟩
noncomputable def T_law1 : Int × Int × Int × Int × Maps × Progs → Tree (A_law1 ⊕ (Ex × St)) := fun ⟨m, n, t, i, a, p⟩ => 
Tree.ite (decide (i < m)) (Tree.ite (bytesOk (List.length a + (1 : Nat)) (48 : Nat) && (List.length a + (1 : Nat)).ble (140737488355328 : Nat)) (Tree.ret (Sum.inl (m, n, t, IntKind.i64.wrap (i + (1 : Int)), a ++ [((4 : Int), (0 : Int), (0 : Int), (8 : Int), false, (0 : Int), ())], p))) Tree.fail) (Tree.ret (Sum.inr (Ex.exit (0 : Nat), { env := [((0 : Nat), AV.p (Part.one (Cell.v (Value.int IntKind.i64 m)))), ((1 : Nat), AV.p (Part.one (Cell.v (Value.int IntKind.i64 n)))), ((2 : Nat), AV.p (Part.one (Cell.v (Value.int IntKind.i64 t)))), ((7 : Nat), AV.p (Part.one (Cell.p (0 : Nat) (0 : Nat))))], hp := [((0 : Nat), Ob.lit [Cell.v (Value.slice none (0 : Nat) (0 : Nat)), Cell.h (1 : Nat), Cell.h (2 : Nat)]), ((1 : Nat), Ob.row Ob.mapT a), ((2 : Nat), Ob.row progT p)], nx := (3 : Nat) })))
theorem turn_law1 : ∀ a : A_law1, (turnT 0 orc_law1 (evalCode Tryz.prog (lk L_mchk) Tryz.f8.ntmps 0 30 LT_law (bodyAt c_law p_law1) false (0 :: p_law1)) (sh_law1.enc (e_law1 a))).run = ((T_law1 a).bind fun s => .ret (turnV sh_law1 e_law1 s)).run := by
  rintro ⟨m, n, t, i, a, p⟩
  kernel_rfl

def μ_law1 : A_law1 → Nat := fun ⟨m, n, t, i, a, p⟩ => (m - i).toNat
theorem step_law1 : ∀ a : A_law1, I_law1 a → (∃ a', (T_law1 a).run = some (.inl a') ∧ I_law1 a' ∧ μ_law1 a' < μ_law1 a ∧ (G_law1 a').run = (G_law1 a).run) ∨ (∃ y, (T_law1 a).run = some (.inr y) ∧ (G_law1 a).run = some y ∧ ((∃ id, y.1 = .exit id) ∨ y.1 = .ret)) := by
  rintro ⟨m, n, t, i, a, p⟩ ⟨h1, h2, h3, rfl⟩
  by_cases h : i < m
  · refine .inl ⟨(m, n, t, i + 1, rings i.toNat ++ [ringM], p), ?_, ⟨by omega, by omega, h3, by rw [toNat_succ h1, rings_succ]⟩, ?_, rfl⟩
    · simp only [T_law1]
      rw [wrap64 (by omega) (by omega)]
      have hl := rings_len i.toNat
      exact (goTd h).trans (goTb ⟨by omega, by omega⟩)
    · change (m - (i + 1)).toNat < (m - i).toNat
      omega
  · have he : i = m := by omega
    subst he
    exact .inr ⟨_, goFd h, rfl, .inl ⟨0, rfl⟩⟩
theorem lok_law : LOk Tryz.prog (lk L_mchk) Tryz.f8.ntmps 0 30 LT_law c_law := lok_view (lok_view (noL_ok2 _ _ _ _ _ _ _) (by kernel_rfl) e_law2 (by rintro ⟨⟨m, n, t, ⟨⟩, s, i, ⟨⟩⟩, ⟨⟨⟨⟩, ⟨⟩, ⟨⟩, ⟨⟩⟩, a, p, ⟨⟩⟩⟩; exact ⟨(m, n, t, i, s, a, p), rfl⟩) T_law2 turn_law2 I_law2 G_law2 (by rintro ⟨m, n, t, i, s, a, p⟩; rfl) μ_law2 step_law2) (by kernel_rfl) e_law1 (by rintro ⟨⟨m, n, t, ⟨⟩, i, ⟨⟩⟩, ⟨⟨⟨⟩, ⟨⟩, ⟨⟩, ⟨⟩⟩, a, p, ⟨⟩⟩⟩; exact ⟨(m, n, t, i, a, p), rfl⟩) T_law1 turn_law1 I_law1 G_law1 (by rintro ⟨m, n, t, i, a, p⟩; rfl) μ_law1 step_law1
noncomputable def E_law : Int × Int × Int → Tree (AV × List Ob) := fun ⟨m, n, t⟩ => 
Tree.ite (!decide (m < (0 : Int))) (Tree.ite (!decide ((20 : Int) < m)) (Tree.ite (!decide (n < (0 : Int))) (Tree.ite (decide ((20 : Int) < n)) (Tree.ret (AV.p (Part.one (Cell.v (Value.bool true))), [])) (Tree.ite (decC ((0 : Int) ≤ (0 : Int) ∧ (0 : Int) ≤ m ∧ m ≤ (20 : Int) ∧ [] = rings (0 : Nat))) (Tree.ite (decC ((0 : Int) ≤ (0 : Int) ∧ (0 : Int) ≤ n ∧ n ≤ (20 : Int) ∧ { data := #[(97 : UInt8), (98 : UInt8), (99 : UInt8), (100 : UInt8), (101 : UInt8), (102 : UInt8), (103 : UInt8), (104 : UInt8), (105 : UInt8), (106 : UInt8), (107 : UInt8), (108 : UInt8), (109 : UInt8), (110 : UInt8), (111 : UInt8), (112 : UInt8), (113 : UInt8), (114 : UInt8), (115 : UInt8), (116 : UInt8), (117 : UInt8), (118 : UInt8), (119 : UInt8), (120 : UInt8), (121 : UInt8), (122 : UInt8)] } = alpha ∧ [] = plains (0 : Nat))) (Tree.ite (decide ((0 : Int) < t)) (Tree.ite (decide (t < n)) (Tree.ite (decide ((0 : Int) ≤ t) && decide (t < (↑(List.length (plains n.toNat)) : Int))) (Tree.ite (decC (goodM (rings m.toNat) ∧ goodP (List.set (plains n.toNat) t.toNat ({ data := #[(97 : UInt8)] }, (List.getD (plains n.toNat) t.toNat ({ data := { toList := [] } }, [], ())).snd)))) (Tree.ite (decide ((16 : Int) < m)) (Tree.ite (mcE (rings m.toNat) (List.set (plains n.toNat) t.toNat ({ data := #[(97 : UInt8)] }, (List.getD (plains n.toNat) t.toNat ({ data := { toList := [] } }, [], ())).snd)) == (51 : Int)) (Tree.ret (AV.p (Part.one (Cell.v (Value.bool (mcA (rings m.toNat) (List.set (plains n.toNat) t.toNat ({ data := #[(97 : UInt8)] }, (List.getD (plains n.toNat) t.toNat ({ data := { toList := [] } }, [], ())).snd)) == (16 : Int))))), [])) (Tree.ret (AV.p (Part.one (Cell.v (Value.bool false))), []))) (Tree.ite (!n == (0 : Int)) (Tree.ite (decide ((16 : Int) < n)) (Tree.ite (mcE (rings m.toNat) (List.set (plains n.toNat) t.toNat ({ data := #[(97 : UInt8)] }, (List.getD (plains n.toNat) t.toNat ({ data := { toList := [] } }, [], ())).snd)) == (52 : Int)) (Tree.ret (AV.p (Part.one (Cell.v (Value.bool (mcA (rings m.toNat) (List.set (plains n.toNat) t.toNat ({ data := #[(97 : UInt8)] }, (List.getD (plains n.toNat) t.toNat ({ data := { toList := [] } }, [], ())).snd)) == (0 : Int))))), [])) (Tree.ret (AV.p (Part.one (Cell.v (Value.bool false))), []))) (Tree.ite (decide (t < n)) (Tree.ite (mcE (rings m.toNat) (List.set (plains n.toNat) t.toNat ({ data := #[(97 : UInt8)] }, (List.getD (plains n.toNat) t.toNat ({ data := { toList := [] } }, [], ())).snd)) == (52 : Int)) (Tree.ret (AV.p (Part.one (Cell.v (Value.bool (mcA (rings m.toNat) (List.set (plains n.toNat) t.toNat ({ data := #[(97 : UInt8)] }, (List.getD (plains n.toNat) t.toNat ({ data := { toList := [] } }, [], ())).snd)) == t)))), [])) (Tree.ret (AV.p (Part.one (Cell.v (Value.bool false))), []))) (Tree.ite (mcE (rings m.toNat) (List.set (plains n.toNat) t.toNat ({ data := #[(97 : UInt8)] }, (List.getD (plains n.toNat) t.toNat ({ data := { toList := [] } }, [], ())).snd)) == (0 : Int)) (Tree.ret (AV.p (Part.one (Cell.v (Value.bool (mcA (rings m.toNat) (List.set (plains n.toNat) t.toNat ({ data := #[(97 : UInt8)] }, (List.getD (plains n.toNat) t.toNat ({ data := { toList := [] } }, [], ())).snd)) == (0 : Int))))), [])) (Tree.ret (AV.p (Part.one (Cell.v (Value.bool false))), []))))) (Tree.ite (mcE (rings m.toNat) (List.set (plains n.toNat) t.toNat ({ data := #[(97 : UInt8)] }, (List.getD (plains n.toNat) t.toNat ({ data := { toList := [] } }, [], ())).snd)) == (52 : Int)) (Tree.ret (AV.p (Part.one (Cell.v (Value.bool (mcA (rings m.toNat) (List.set (plains n.toNat) t.toNat ({ data := #[(97 : UInt8)] }, (List.getD (plains n.toNat) t.toNat ({ data := { toList := [] } }, [], ())).snd)) == (0 : Int))))), [])) (Tree.ret (AV.p (Part.one (Cell.v (Value.bool false))), []))))) Tree.fail) Tree.fail) (Tree.ite (decC (goodM (rings m.toNat) ∧ goodP (plains n.toNat))) (Tree.ite (decide ((16 : Int) < m)) (Tree.ite (mcE (rings m.toNat) (plains n.toNat) == (51 : Int)) (Tree.ret (AV.p (Part.one (Cell.v (Value.bool (mcA (rings m.toNat) (plains n.toNat) == (16 : Int))))), [])) (Tree.ret (AV.p (Part.one (Cell.v (Value.bool false))), []))) (Tree.ite (!n == (0 : Int)) (Tree.ite (decide ((16 : Int) < n)) (Tree.ite (mcE (rings m.toNat) (plains n.toNat) == (52 : Int)) (Tree.ret (AV.p (Part.one (Cell.v (Value.bool (mcA (rings m.toNat) (plains n.toNat) == (0 : Int))))), [])) (Tree.ret (AV.p (Part.one (Cell.v (Value.bool false))), []))) (Tree.ite (decide (t < n)) (Tree.ite (mcE (rings m.toNat) (plains n.toNat) == (52 : Int)) (Tree.ret (AV.p (Part.one (Cell.v (Value.bool (mcA (rings m.toNat) (plains n.toNat) == t)))), [])) (Tree.ret (AV.p (Part.one (Cell.v (Value.bool false))), []))) (Tree.ite (mcE (rings m.toNat) (plains n.toNat) == (0 : Int)) (Tree.ret (AV.p (Part.one (Cell.v (Value.bool (mcA (rings m.toNat) (plains n.toNat) == (0 : Int))))), [])) (Tree.ret (AV.p (Part.one (Cell.v (Value.bool false))), []))))) (Tree.ite (mcE (rings m.toNat) (plains n.toNat) == (52 : Int)) (Tree.ret (AV.p (Part.one (Cell.v (Value.bool (mcA (rings m.toNat) (plains n.toNat) == (0 : Int))))), [])) (Tree.ret (AV.p (Part.one (Cell.v (Value.bool false))), []))))) Tree.fail)) (Tree.ite (decC (goodM (rings m.toNat) ∧ goodP (plains n.toNat))) (Tree.ite (decide ((16 : Int) < m)) (Tree.ite (mcE (rings m.toNat) (plains n.toNat) == (51 : Int)) (Tree.ret (AV.p (Part.one (Cell.v (Value.bool (mcA (rings m.toNat) (plains n.toNat) == (16 : Int))))), [])) (Tree.ret (AV.p (Part.one (Cell.v (Value.bool false))), []))) (Tree.ite (!n == (0 : Int)) (Tree.ite (decide ((16 : Int) < n)) (Tree.ite (mcE (rings m.toNat) (plains n.toNat) == (52 : Int)) (Tree.ret (AV.p (Part.one (Cell.v (Value.bool (mcA (rings m.toNat) (plains n.toNat) == (0 : Int))))), [])) (Tree.ret (AV.p (Part.one (Cell.v (Value.bool false))), []))) (Tree.ite (mcE (rings m.toNat) (plains n.toNat) == (0 : Int)) (Tree.ret (AV.p (Part.one (Cell.v (Value.bool (mcA (rings m.toNat) (plains n.toNat) == (0 : Int))))), [])) (Tree.ret (AV.p (Part.one (Cell.v (Value.bool false))), [])))) (Tree.ite (mcE (rings m.toNat) (plains n.toNat) == (52 : Int)) (Tree.ret (AV.p (Part.one (Cell.v (Value.bool (mcA (rings m.toNat) (plains n.toNat) == (0 : Int))))), [])) (Tree.ret (AV.p (Part.one (Cell.v (Value.bool false))), []))))) Tree.fail)) Tree.fail) Tree.fail)) (Tree.ret (AV.p (Part.one (Cell.v (Value.bool true))), []))) (Tree.ret (AV.p (Part.one (Cell.v (Value.bool true))), []))) (Tree.ret (AV.p (Part.one (Cell.v (Value.bool true))), []))
theorem ev_law (m : Int) (n : Int) (t : Int) : (evalFnL Tryz.prog (lk L_mchk) 30 LT_law Tryz.f8 c_law [] [.p (.one (.v (.int .i64 m))), .p (.one (.v (.int .i64 n))), .p (.one (.v (.int .i64 t)))] []).run = (E_law (m, n, t)).run := by kernel_rfl

theorem true_law (m : Int) (n : Int) (t : Int) (hok : okS [.one (.i .i64), .one (.i .i64), .one (.i .i64)] (m, n, t, ())) : (E_law (m, n, t)).run = some (AV.b true, []) := by
  simp only [E_law]
  by_cases hm0 : m < 0
  · exact goFn hm0
  by_cases hm1 : 20 < m
  · exact (goTn hm0).trans (goFn hm1)
  by_cases hn0 : n < 0
  · exact (goTn hm0).trans ((goTn hm1).trans (goFn hn0))
  by_cases hn1 : 20 < n
  · exact (goTn hm0).trans ((goTn hm1).trans ((goTn hn0).trans (goTd hn1)))
  refine (goTn hm0).trans ((goTn hm1).trans ((goTn hn0).trans ((goFd hn1).trans ((goC ⟨by omega, by omega, by omega, rfl⟩).trans ((goC ⟨by omega, by omega, by omega, rfl, rfl⟩).trans ?_)))))
  have gm : goodM (rings m.toNat) := ⟨_, by omega, rfl⟩
  have hn : n.toNat ≤ 20 := by omega
  have gp : ∀ t, goodP (progsL n.toNat t) := fun t => ⟨_, t, hn, rfl⟩
  by_cases ht : 0 < t
  · refine (goTd ht).trans ?_
    by_cases ht1 : t < n
    · refine (goTd ht1).trans ((goTa ⟨by omega, by rw [plains_len]; omega⟩).trans ?_)
      have hs := set_progs (n := n.toNat) (t := t.toNat) (by omega) (by omega)
      have e1 := hE (k := m.toNat) (n := n.toNat) (t := t.toNat) hn
      have e2 := hA (k := m.toNat) (n := n.toNat) (t := t.toNat) hn
      have e3 := gp t.toNat
      rw [← hs] at e1 e2 e3
      refine (goC ⟨gm, e3⟩).trans ?_
      by_cases c1 : 16 < m
      · rw [if_pos (by omega)] at e1 e2
        rw [e1, e2]
        exact (goTd c1).trans rfl
      rw [if_neg (show ¬16 < m.toNat by omega)] at e1 e2
      refine (goFd c1).trans ?_
      by_cases c3 : n = 0
      · rw [if_pos (by omega)] at e1 e2
        rw [e1, e2]
        exact (goF (by simp [c3])).trans rfl
      refine (goT (by simp [c3])).trans ?_
      by_cases c2 : 16 < n
      · rw [if_pos (by omega)] at e1 e2
        rw [e1, e2]
        exact (goTd c2).trans rfl
      rw [if_pos (by omega)] at e1
      rw [if_neg (by omega)] at e2
      rw [e1, e2]
      refine (goFd c2).trans ((goTd ht1).trans ((goTe rfl).trans ?_))
      rw [show ((t.toNat : Int) == t) = true from by simp; omega]
      rfl
    · refine (goFd ht1).trans ?_
      have e1 := hE (k := m.toNat) (n := n.toNat) (t := 0) hn
      have e2 := hA (k := m.toNat) (n := n.toNat) (t := 0) hn
      refine (goC ⟨gm, gp 0⟩).trans ?_
      rw [plains_L]
      by_cases c1 : 16 < m
      · rw [if_pos (by omega)] at e1 e2
        rw [e1, e2]
        exact (goTd c1).trans rfl
      rw [if_neg (show ¬16 < m.toNat by omega)] at e1 e2
      refine (goFd c1).trans ?_
      by_cases c3 : n = 0
      · rw [if_pos (by omega)] at e1 e2
        rw [e1, e2]
        exact (goF (by simp [c3])).trans rfl
      refine (goT (by simp [c3])).trans ?_
      by_cases c2 : 16 < n
      · rw [if_pos (by omega)] at e1 e2
        rw [e1, e2]
        exact (goTd c2).trans rfl
      rw [if_neg (by omega)] at e1
      rw [if_pos (by omega)] at e2
      rw [e1, e2]
      exact (goFd c2).trans ((goFd ht1).trans rfl)
  · refine (goFd ht).trans ?_
    have e1 := hE (k := m.toNat) (n := n.toNat) (t := 0) hn
    have e2 := hA (k := m.toNat) (n := n.toNat) (t := 0) hn
    refine (goC ⟨gm, gp 0⟩).trans ?_
    rw [plains_L]
    by_cases c1 : 16 < m
    · rw [if_pos (by omega)] at e1 e2
      rw [e1, e2]
      exact (goTd c1).trans rfl
    rw [if_neg (show ¬16 < m.toNat by omega)] at e1 e2
    refine (goFd c1).trans ?_
    by_cases c3 : n = 0
    · rw [if_pos (by omega)] at e1 e2
      rw [e1, e2]
      exact (goF (by simp [c3])).trans rfl
    refine (goT (by simp [c3])).trans ?_
    by_cases c2 : 16 < n
    · rw [if_pos (by omega)] at e1 e2
      rw [e1, e2]
      exact (goTd c2).trans rfl
    rw [if_neg (by omega)] at e1
    rw [if_pos (by omega)] at e2
    rw [e1, e2]
    exact (goFd c2).trans rfl
theorem lifted_law (os : Os) (started : os.Started) : ∀ {H : Type} (enc : TypeId × Value → H), ReturnsInHanded {} Tryz.checked os 8 .any (Rows.objectManySpec.pre6 enc Tryz.prog Tryz.f8 [] false) (Rows.objectManySpec.post enc Tryz.prog Tryz.f8 false true false false) := by
  intro H enc
  refine law_lifted (by kernel_rfl) (by kernel_rfl) started (by kernel_rfl) Tryz.func8 rfl ?_ rfl (by kernel_rfl) ?_
    (ChangeSpec.witness6 (enc := enc) (C := Tryz.checked) false ⟨#[], #[.int .i64 0, .int .i64 0, .int .i64 0], []⟩ 8 (by kernel_rfl) (by kernel_rfl) (by kernel_rfl) (by kernel_rfl)) ?_
  · exact of_decide_eq_true (by kernel_rfl)
  · intro ds hds
    match ds, hds with
    | [d0, d1, d2], _ => rfl
  · intro W base args ds before hval htrod
    refine law_data (K := Kn) tok_mchk Tryz.checked.mixed Tryz.func8 (by rfl) 30 4 (rc := []) (sh := [.one (.i .i64), .one (.i .i64), .one (.i .i64)]) (by kernel_rfl) ?_ W trivial base args ds before hval htrod
    rintro ⟨m, n, t, ⟨⟩⟩ hok
    exact ⟨LT_law, lok_law, (ev_law m n t).trans (true_law m n t hok)⟩
theorem over_law : Rows.objectManyRow.holds Tryz.pinned (OpenSpec.ofChange Rows.objectManySpec) :=
  OpenClaim.holds_of_wide 8 Tryz.f8 rfl rfl rfl rfl rfl rfl rfl ⟨rfl, rfl, rfl, rfl, rfl⟩ rfl rfl rfl rfl rfl (by kernel_rfl) Tryz.func8 (by kernel_rfl)
    (of_decide_eq_true (by kernel_rfl)) (by unfold Func.isWrapper; first | (rw [if_pos (by decide +kernel)]; kernel_rfl) | (rw [if_neg (by decide +kernel)]; exact ⟨rfl, rfl⟩))
    (fun os started H enc _ => lifted_law os started enc)
theorem holds_law : Rows.ObjectManySaid := over_law
end Go.Proofs.YtdkgeoadeljcpaaGreat.obm
