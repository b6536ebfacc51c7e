/-
  The contract of flow.Depth on the rows of FlowDeep (written by our own gen_fld.py).
-/
import Derived.Test.YtdbnbijillmlcaaFlWa
import Derived.Test.YtdbnbijillmlcaaFlQ
import Derived.Test.YtdbnbijillmlcaaFlWb
import Derived.Test.YtdbnbijillmlcaaFlWc
import Derived.Test.YtdbnbijillmlcaaFlWd
import Derived.Test.YtdbnbijillmlcaaFlWe
import Derived.Test.YtdbnbijillmlcaaFlWf
import Derived.Test.YtdbnbijillmlcaaFlWg
namespace Go.Proofs.Ytdbnbijillmlcaa
open Go Go.Sy Go.Sz Go.In Go.Fl Go.Proofs.Ytdbnbijillmlcaa
set_option linter.unusedVariables false
set_option linter.unusedSimpArgs false
set_option linter.constructorNameAsVariable false
set_option maxRecDepth 100000

theorem summT_cases {K : Know} {P : Program} (hm : P.follows .mixedOrders = true) {f : FuncId} {fn : Func} {c : Code} (hf : P.funcs[f]? = some fn) (hn : (fn.name == "runtime.NumGoroutine") = false) (hb : fn.body = some c) (fuel : Nat)
    (rc : List (Nat × Tys)) {modes : List Sz.Mode} {esc : Bool} {sa : List ShA} {so : List ShO} {F : denAs sa → denObs so → Tree (AV × List Ob)}
    (h : ∀ x y v H', (F x y).run = some (v, H') → ∃ T L, TOk K P T ∧ LOk P T fn.ntmps (encOs so y).length fuel L c ∧ (evalFnL P T fuel L fn c rc (encAs sa x) (encOs so y)).run = some (v, H')) : SummOk K P f (sumT modes esc sa so F) :=
  .inr ⟨⟨fn, hf, hn, by rw [hb]; rfl⟩, fun args H H' v hg hck F' r w us hk hpre ha hi => by
    simp only [sumT] at hg
    split at hg
    · rename_i x y hx hy
      obtain ⟨T, L, hT, hL, he⟩ := h x y v H' hg
      rw [← decAs_eq hx, ← decOs_eq hy] at he
      rw [← decOs_eq hy] at hL
      exact calls_of_evalL hT hm hf hb hL he hk hpre ha hi
    · cases hg⟩
def lastC (l : Slots) : Bool := (l.getD (l.length - 2) noIns).1 == 183#8 && decide (l.length ≤ 16)
def dV (l : Slots) : Int := bif lastC l then (l.length / 2 : Nat) else 0
def eV (l : Slots) : Int := bif lastC l then 0 else 151
def DepOk (l : Slots) : Prop := ∃ n : Nat, 1 ≤ n ∧ n ≤ 20 ∧ (l = Fl.deepL n ∨ (2 ≤ n ∧ ∃ t, t < n - 1 ∧ l = cycL n (2 * (t + 1))))
noncomputable def F_depth : denAs [.c (.d insT)] → denObs [] → Tree (AV × List Ob) := fun x y => match x, y with
  | (l, ()), () => ckP (DepOk l) (.ret (resD (dV l) (eV l)))
theorem deep_run {n m : Nat} {l : Slots} {t : Option (AV × List Ob)} {x : Option (AV × List Ob)} (e : t = (bif realQ.R l then (bif realQ.S l then nestB m (realQ.N l) x else none) else none)) (h : goodD l = true) : t = x := by
  unfold goodD at h
  rw [Bool.and_eq_true, Bool.and_eq_true] at h
  obtain ⟨h1, h2, h3⟩ := h
  rw [e, show realQ.R l = true from h1, show realQ.S l = true from h2, nestB_true m (show realQ.N l = true from h3)]; rfl
theorem cyc_run {n m : Nat} {l : Slots} {t : Option (AV × List Ob)} {x : AV × List Ob} (e : t = (bif realQ.R l then (bif realQ.S l then nestB m (realQ.N l) (bif inB (jOf n l) n then (bif fromB n (jOf n l) then (bif fromB n (jOf n l) then some x else none) else none) else none) else none) else none)) (h : goodC n l = true) : t = some x := by
  unfold goodC at h
  rw [Bool.and_eq_true, Bool.and_eq_true] at h
  obtain ⟨h1, h2, h3⟩ := h
  rw [deep_run (n := n) e h1, h2, h3]; rfl
theorem all_at {p : Nat → Bool} {n t : Nat} (h : (List.range n).all p = true) (ht : t < n) : p t = true := List.all_eq_true.1 h t (List.mem_range.2 ht)
theorem dep_deep (n : Nat) (h1 : 1 ≤ n) (h2 : n ≤ 20) : ∃ T, TOk Kn Try.prog T ∧ (evalFnL Try.prog T 60 noL Try.f11 (Try.f11.body.getD .skip) [] [.c (.d insT (Fl.deepL n))] []).run = some (resD (dV (Fl.deepL n)) (eV (Fl.deepL n))) := match n, h1, h2 with
  | 1, _, _ => ⟨lkL (L_e1 realQ), tok_lit (tok_e1 realQ), deep_run (n := 1) (deep_1 realQ) gdeep_1⟩
  | 2, _, _ => ⟨lkL (L_e2 realQ), tok_lit (tok_e2 realQ), deep_run (n := 2) (deep_2 realQ) gdeep_2⟩
  | 3, _, _ => ⟨lkL (L_e3 realQ), tok_lit (tok_e3 realQ), deep_run (n := 3) (deep_3 realQ) gdeep_3⟩
  | 4, _, _ => ⟨lkL (L_e4 realQ), tok_lit (tok_e4 realQ), deep_run (n := 4) (deep_4 realQ) gdeep_4⟩
  | 5, _, _ => ⟨lkL (L_e5 realQ), tok_lit (tok_e5 realQ), deep_run (n := 5) (deep_5 realQ) gdeep_5⟩
  | 6, _, _ => ⟨lkL (L_e6 realQ), tok_lit (tok_e6 realQ), deep_run (n := 6) (deep_6 realQ) gdeep_6⟩
  | 7, _, _ => ⟨lkL (L_e7 realQ), tok_lit (tok_e7 realQ), deep_run (n := 7) (deep_7 realQ) gdeep_7⟩
  | 8, _, _ => ⟨lkL (L_e8 realQ), tok_lit (tok_e8 realQ), deep_run (n := 8) (deep_8 realQ) gdeep_8⟩
  | 9, _, _ => ⟨lkL (L_e9 realQ), tok_lit (tok_e9 realQ), deep_run (n := 9) (deep_9 realQ) gdeep_9⟩
  | 10, _, _ => ⟨lkL (L_e10 realQ), tok_lit (tok_e10 realQ), deep_run (n := 10) (deep_10 realQ) gdeep_10⟩
  | 11, _, _ => ⟨lkL (L_e11 realQ), tok_lit (tok_e11 realQ), deep_run (n := 11) (deep_11 realQ) gdeep_11⟩
  | 12, _, _ => ⟨lkL (L_e12 realQ), tok_lit (tok_e12 realQ), deep_run (n := 12) (deep_12 realQ) gdeep_12⟩
  | 13, _, _ => ⟨lkL (L_e13 realQ), tok_lit (tok_e13 realQ), deep_run (n := 13) (deep_13 realQ) gdeep_13⟩
  | 14, _, _ => ⟨lkL (L_e14 realQ), tok_lit (tok_e14 realQ), deep_run (n := 14) (deep_14 realQ) gdeep_14⟩
  | 15, _, _ => ⟨lkL (L_e15 realQ), tok_lit (tok_e15 realQ), deep_run (n := 15) (deep_15 realQ) gdeep_15⟩
  | 16, _, _ => ⟨lkL (L_e16 realQ), tok_lit (tok_e16 realQ), deep_run (n := 16) (deep_16 realQ) gdeep_16⟩
  | 17, _, _ => ⟨lkL (L_e17 realQ), tok_lit (tok_e17 realQ), deep_run (n := 17) (deep_17 realQ) gdeep_17⟩
  | 18, _, _ => ⟨lkL (L_e18 realQ), tok_lit (tok_e18 realQ), deep_run (n := 18) (deep_18 realQ) gdeep_18⟩
  | 19, _, _ => ⟨lkL (L_e19 realQ), tok_lit (tok_e19 realQ), deep_run (n := 19) (deep_19 realQ) gdeep_19⟩
  | 20, _, _ => ⟨lkL (L_e20 realQ), tok_lit (tok_e20 realQ), deep_run (n := 20) (deep_20 realQ) gdeep_20⟩
  | n + 21, _, h => absurd h (by omega)
theorem dep_cyc (n : Nat) (h1 : 2 ≤ n) (h2 : n ≤ 20) (t : Nat) (ht : t < n - 1) : ∃ T, TOk Kn Try.prog T ∧ (evalFnL Try.prog T 60 noL Try.f11 (Try.f11.body.getD .skip) [] [.c (.d insT (cycL n (2 * (t + 1))))] []).run = some (resD (dV (cycL n (2 * (t + 1)))) (eV (cycL n (2 * (t + 1))))) := match n, h1, h2, ht with
  | 2, _, _, ht => ⟨lkL (L_e2 realQ), tok_lit (tok_e2 realQ), cyc_run (n := 2) (cyc_2 realQ (((2 * (t + 1) : Nat) : Int) - (2 * 2 - 2 : Nat) - 1)) (all_at gcyc_2 ht)⟩
  | 3, _, _, ht => ⟨lkL (L_e3 realQ), tok_lit (tok_e3 realQ), cyc_run (n := 3) (cyc_3 realQ (((2 * (t + 1) : Nat) : Int) - (2 * 3 - 2 : Nat) - 1)) (all_at gcyc_3 ht)⟩
  | 4, _, _, ht => ⟨lkL (L_e4 realQ), tok_lit (tok_e4 realQ), cyc_run (n := 4) (cyc_4 realQ (((2 * (t + 1) : Nat) : Int) - (2 * 4 - 2 : Nat) - 1)) (all_at gcyc_4 ht)⟩
  | 5, _, _, ht => ⟨lkL (L_e5 realQ), tok_lit (tok_e5 realQ), cyc_run (n := 5) (cyc_5 realQ (((2 * (t + 1) : Nat) : Int) - (2 * 5 - 2 : Nat) - 1)) (all_at gcyc_5 ht)⟩
  | 6, _, _, ht => ⟨lkL (L_e6 realQ), tok_lit (tok_e6 realQ), cyc_run (n := 6) (cyc_6 realQ (((2 * (t + 1) : Nat) : Int) - (2 * 6 - 2 : Nat) - 1)) (all_at gcyc_6 ht)⟩
  | 7, _, _, ht => ⟨lkL (L_e7 realQ), tok_lit (tok_e7 realQ), cyc_run (n := 7) (cyc_7 realQ (((2 * (t + 1) : Nat) : Int) - (2 * 7 - 2 : Nat) - 1)) (all_at gcyc_7 ht)⟩
  | 8, _, _, ht => ⟨lkL (L_e8 realQ), tok_lit (tok_e8 realQ), cyc_run (n := 8) (cyc_8 realQ (((2 * (t + 1) : Nat) : Int) - (2 * 8 - 2 : Nat) - 1)) (all_at gcyc_8 ht)⟩
  | 9, _, _, ht => ⟨lkL (L_e9 realQ), tok_lit (tok_e9 realQ), cyc_run (n := 9) (cyc_9 realQ (((2 * (t + 1) : Nat) : Int) - (2 * 9 - 2 : Nat) - 1)) (all_at gcyc_9 ht)⟩
  | 10, _, _, ht => ⟨lkL (L_e10 realQ), tok_lit (tok_e10 realQ), cyc_run (n := 10) (cyc_10 realQ (((2 * (t + 1) : Nat) : Int) - (2 * 10 - 2 : Nat) - 1)) (all_at gcyc_10 ht)⟩
  | 11, _, _, ht => ⟨lkL (L_e11 realQ), tok_lit (tok_e11 realQ), cyc_run (n := 11) (cyc_11 realQ (((2 * (t + 1) : Nat) : Int) - (2 * 11 - 2 : Nat) - 1)) (all_at gcyc_11 ht)⟩
  | 12, _, _, ht => ⟨lkL (L_e12 realQ), tok_lit (tok_e12 realQ), cyc_run (n := 12) (cyc_12 realQ (((2 * (t + 1) : Nat) : Int) - (2 * 12 - 2 : Nat) - 1)) (all_at gcyc_12 ht)⟩
  | 13, _, _, ht => ⟨lkL (L_e13 realQ), tok_lit (tok_e13 realQ), cyc_run (n := 13) (cyc_13 realQ (((2 * (t + 1) : Nat) : Int) - (2 * 13 - 2 : Nat) - 1)) (all_at gcyc_13 ht)⟩
  | 14, _, _, ht => ⟨lkL (L_e14 realQ), tok_lit (tok_e14 realQ), cyc_run (n := 14) (cyc_14 realQ (((2 * (t + 1) : Nat) : Int) - (2 * 14 - 2 : Nat) - 1)) (all_at gcyc_14 ht)⟩
  | 15, _, _, ht => ⟨lkL (L_e15 realQ), tok_lit (tok_e15 realQ), cyc_run (n := 15) (cyc_15 realQ (((2 * (t + 1) : Nat) : Int) - (2 * 15 - 2 : Nat) - 1)) (all_at gcyc_15 ht)⟩
  | 16, _, _, ht => ⟨lkL (L_e16 realQ), tok_lit (tok_e16 realQ), cyc_run (n := 16) (cyc_16 realQ (((2 * (t + 1) : Nat) : Int) - (2 * 16 - 2 : Nat) - 1)) (all_at gcyc_16 ht)⟩
  | 17, _, _, ht => ⟨lkL (L_e17 realQ), tok_lit (tok_e17 realQ), cyc_run (n := 17) (cyc_17 realQ (((2 * (t + 1) : Nat) : Int) - (2 * 17 - 2 : Nat) - 1)) (all_at gcyc_17 ht)⟩
  | 18, _, _, ht => ⟨lkL (L_e18 realQ), tok_lit (tok_e18 realQ), cyc_run (n := 18) (cyc_18 realQ (((2 * (t + 1) : Nat) : Int) - (2 * 18 - 2 : Nat) - 1)) (all_at gcyc_18 ht)⟩
  | 19, _, _, ht => ⟨lkL (L_e19 realQ), tok_lit (tok_e19 realQ), cyc_run (n := 19) (cyc_19 realQ (((2 * (t + 1) : Nat) : Int) - (2 * 19 - 2 : Nat) - 1)) (all_at gcyc_19 ht)⟩
  | 20, _, _, ht => ⟨lkL (L_e20 realQ), tok_lit (tok_e20 realQ), cyc_run (n := 20) (cyc_20 realQ (((2 * (t + 1) : Nat) : Int) - (2 * 20 - 2 : Nat) - 1)) (all_at gcyc_20 ht)⟩
  | n + 21, _, h, _ => absurd h (by omega)
theorem ok_depth : SummOk Kn Try.prog 11 (sumT [.dp insT] false [.c (.d insT)] [] F_depth) := summT_cases Try.checked.mixed Try.func11 (by kernel_rfl) (by rfl) 60 [] (by
  rintro ⟨l, ⟨⟩⟩ ⟨⟩ v H' h
  obtain ⟨⟨n, h1, h2, h3⟩, h⟩ := ckP_run h
  rw [← Option.some.inj h]
  rcases h3 with rfl | ⟨h4, t, ht, rfl⟩
  · obtain ⟨T, hT, e⟩ := dep_deep n h1 h2
    exact ⟨T, noL, hT, noL_ok _ _ _ _ _ _, e⟩
  · obtain ⟨T, hT, e⟩ := dep_cyc n h4 h2 t ht
    exact ⟨T, noL, hT, noL_ok _ _ _ _ _ _, e⟩)
noncomputable def L_depth : List (Nat × Summ) := (11, (sumT [.dp insT] false [.c (.d insT)] [] F_depth)) :: L_deep
theorem tok_depth : TOk Kn Try.prog (lk L_depth) := lk_cons ok_depth tok_deep

end Go.Proofs.Ytdbnbijillmlcaa
