/-
  What a ledger holds (written by our own gen_soh.py).
-/
import Derived.Test.YtebimchjglckoaaSoL
import Derived.Test.YtebimchjglckoaaShelf
import Derived.Test.YtebimchjglckoaaSoX
import Derived.Test.YtebimchjglckoaaSoW
import Derived.Test.YtebimchjglckoaaSzAI
namespace Go.Proofs.Ytebimchjglckoaa.led
open Go Go.Sy Go.Sz Go.So Go.Proofs.Ytebimchjglckoaa
set_option linter.unusedVariables false
set_option linter.unusedSimpArgs false
set_option linter.constructorNameAsVariable false
set_option maxRecDepth 100000

theorem ok_len64 : SummOk Kn Try.prog 50 (sumE [.any] false Try.prog (lk L_ints) 20 Try.f50 (Try.f50.body.getD .skip) []) := sumE_ok tok_ints Try.checked.mixed Try.func50 (by kernel_rfl) (by rfl) 20 []
noncomputable def L_len64 : List (Nat × Summ) := (50, (sumE [.any] false Try.prog (lk L_ints) 20 Try.f50 (Try.f50.body.getD .skip) [])) :: L_ints
theorem tok_len64 : TOk Kn Try.prog (lk L_len64) := lk_cons ok_len64 tok_ints

theorem ok_blen : SummOk Kn Try.prog 39 (sumE [.any] false Try.prog (lk L_len64) 20 Try.f39 (Try.f39.body.getD .skip) []) := sumE_ok tok_len64 Try.checked.mixed Try.func39 (by kernel_rfl) (by rfl) 20 []
noncomputable def L_blen : List (Nat × Summ) := (39, (sumE [.any] false Try.prog (lk L_len64) 20 Try.f39 (Try.f39.body.getD .skip) [])) :: L_len64
theorem tok_blen : TOk Kn Try.prog (lk L_blen) := lk_cons ok_blen tok_len64

theorem ok_inso : SummOk Kn Try.prog 40 (sumE [.any, .any, .any] false Try.prog (lk L_blen) 20 Try.f40 (Try.f40.body.getD .skip) []) := sumE_ok tok_blen Try.checked.mixed Try.func40 (by kernel_rfl) (by rfl) 20 []
noncomputable def L_inso : List (Nat × Summ) := (40, (sumE [.any, .any, .any] false Try.prog (lk L_blen) 20 Try.f40 (Try.f40.body.getD .skip) [])) :: L_blen
theorem tok_inso : TOk Kn Try.prog (lk L_inso) := lk_cons ok_inso tok_blen

theorem ok_pdq : SummOk Kn Try.prog 38 (sumE [.any, .any, .any, .any] false Try.prog (lk L_inso) 20 Try.f38 (Try.f38.body.getD .skip) []) := sumE_ok tok_inso Try.checked.mixed Try.func38 (by kernel_rfl) (by rfl) 20 []
noncomputable def L_pdq : List (Nat × Summ) := (38, (sumE [.any, .any, .any, .any] false Try.prog (lk L_inso) 20 Try.f38 (Try.f38.body.getD .skip) [])) :: L_inso
theorem tok_pdq : TOk Kn Try.prog (lk L_pdq) := lk_cons ok_pdq tok_inso

noncomputable def sortNil : Summ := (sumE [.any] false Try.prog (lk L_pdq) 20 Try.f36 (Try.f36.body.getD .skip) [])
theorem ok_sortNil : SummOk Kn Try.prog 36 sortNil := sumE_ok tok_pdq Try.checked.mixed Try.func36 (by kernel_rfl) (by rfl) 20 []
theorem sortNil_run : (sortNil.g [AV.c (.h 0)] [.row intsT []]).run = some (AV.t [], [.row intsT []]) := by kernel_rfl
theorem ok_sort : SummOk Kn Try.prog 36 sortS0 := sort0_ok Try.func36 (by kernel_rfl) (by rfl) (sort_ok Try.func36 (by rfl) (by rfl) fun blk off cap zs w h1 h2 h3 => Try.slices_Sort_int blk off cap zs w h1 h2 h3) ok_sortNil sortNil_run (by rfl)
noncomputable def L_sort : List (Nat × Summ) := (36, sortS0) :: L_pdq
theorem tok_sort : TOk Kn Try.prog (lk L_sort) := lk_cons ok_sort tok_pdq

noncomputable def cHeld : Code := Try.f19.body.getD .skip
noncomputable abbrev PH : Program := Try.prog
abbrev pR2 : List Nat := [0, 0, 1, 1]
abbrev pR3 : List Nat := [0, 0, 0, 1, 0, 1, 1]
abbrev pR4 : List Nat := [0, 0, 1, 1, 0, 0, 1, 0, 1, 1]
abbrev pR5 : List Nat := [1, 0, 1, 1, 0, 0, 1, 0, 1, 1]
noncomputable abbrev cLoopB : Code := .seq (.region 3 (opsAt cHeld pR3) false) (.seq (.cond (.tmp 11) .skip (.exit 0)) (.block 1 (.seq (.region 4 (opsAt cHeld pR4) false) (.region 5 (opsAt cHeld pR5) false))))
noncomputable abbrev cEnd : Code := .seq (.region 6 (opsAt cHeld [0, 1, 1, 1]) false) (.seq (.region 7 (opsAt cHeld [0, 1, 1, 1, 1]) false) .ret)
theorem cHeld_eq : cHeld = .seq (.region 0 (opsAt cHeld [0]) false) (.seq (.region 1 (opsAt cHeld [0, 1]) false) (.seq (.seq (.region 2 (opsAt cHeld pR2) false) (.block 0 (.loop cLoopB))) cEnd)) := by kernel_rfl
theorem o2_eq : opsAt cHeld pR2 = #[opAt cHeld pR2 0, opAt cHeld pR2 1, opAt cHeld pR2 2, opAt cHeld pR2 3, opAt cHeld pR2 4] := by kernel_rfl
theorem o3_eq : opsAt cHeld pR3 = #[opAt cHeld pR3 0, opAt cHeld pR3 1] := by kernel_rfl
theorem o4_eq : opsAt cHeld pR4 = #[opAt cHeld pR4 0, opAt cHeld pR4 1, opAt cHeld pR4 2] := by kernel_rfl
theorem body_held : Try.f19.body = some cHeld := by kernel_rfl
abbrev obL (x : Int) : Ob := .lit [.v (.int .i64 x), .h 1, .h 2]
def hpL (x : Int) (m : Helds) (e : Evs) (l : Ints) : Hp := [(0, obL x), (1, .mp (.i .i64) heldT m), (2, .row evT e), (3, .row intsT l)]
def hpS (x : Int) (e : Evs) (l : Ints) : Hp := [(0, obL x), (2, .row evT e), (3, .row intsT l)]
noncomputable def heldS : Summ := sumT [.own 3] false [.c (.p 0 0)] [.lit [.i .i64, .h 1, .h 2], .mp (.i .i64) heldT, .row evT] fun _ y => match y with
  | ((x, _, _, _), m, e, _) => ckP (Rise 0 m ∧ m.length ≤ 1000000) (.ret (AV.c (.h 3), [obL x, .mp (.i .i64) heldT m, .row evT e, .row intsT (ids m)]))

noncomputable abbrev TH : FuncId → Option Summ := (lk L_sort)
theorem tokH : TOk Kn PH TH := tok_sort
abbrev ptrV (b0 : Nat) : Value := .pointer (some ⟨b0, 0, none⟩)
def stL (x : Int) (m : Helds) (e : Evs) (l : Ints) (b0 : Nat) : St := ⟨[(3, AV.c (.h 3)), (9, AV.c (.v (ptrV b0)))], hpL x m e l, 4⟩
def st5 (x : Int) (e : Evs) (l : Ints) (b0 : Nat) (k : Int) : St := ⟨[(4, AV.c (.v (.int .i64 k))), (3, AV.c (.h 3)), (9, AV.c (.v (ptrV b0)))], hpS x e l, 4⟩
def stS (x : Int) (e : Evs) (l : Ints) (b0 : Nat) : St := ⟨[(3, AV.c (.h 3)), (9, AV.c (.v (ptrV b0)))], hpS x e l, 4⟩
def oR5 : Orc := ⟨⟨[], []⟩, [], [3, 9], [], fun _ => .fail⟩
theorem r5_run (x k : Int) (e : Evs) (l : Ints) (b0 : Nat) : (endT 3 oR5 (evalCode PH TH 21 3 20 noL (.region 5 (opsAt cHeld pR5) false) true []) (st5 x e l b0 k)).run = (Tree.ite (bytesOk (List.length l + 1) 8 && (List.length l + 1).ble 140737488355328) (.ret (.normal, stS x e (l ++ [(k, ())]) b0)) .fail).run := by kernel_rfl
def st2 (x : Int) (m : Helds) (e : Evs) : St := ⟨[(3, AV.c (.v (.slice none 0 0))), (2, AV.c (.v (.slice none 0 0))), (0, AV.c (.p 0 0))], [(0, obL x), (1, .mp (.i .i64) heldT m), (2, .row evT e)], 3⟩
def st3 (x : Int) (m : Helds) (e : Evs) : St := ⟨[(3, AV.c (.h 3)), (8, AV.c (.h 1))], hpL x m e [], 4⟩
theorem r2_run (x : Int) (m : Helds) (e : Evs) : ((stepsT PH TH 21 (opsAt cHeld pR2) [opAt cHeld pR2 0, opAt cHeld pR2 1, opAt cHeld pR2 2, opAt cHeld pR2 3] (st2 x m e)).bind fun s => (hsT [(3, intsT)] s).bind fun s0 => Tree.ofOpt (canon 3 [(3, intsT)] [3, 8] s0)).run = some (st3 x m e) := by kernel_rfl
def st1 (x : Int) (m : Helds) (e : Evs) : St := ⟨[(2, AV.c (.v (.slice none 0 0))), (0, AV.c (.p 0 0))], [(0, obL x), (1, .mp (.i .i64) heldT m), (2, .row evT e)], 3⟩
theorem r0_run (x : Int) (m : Helds) (e : Evs) : (evalCode PH TH 21 3 20 noL (.region 0 (opsAt cHeld [0]) false) true [] ⟨[(0, AV.c (.p 0 0))], [(0, obL x), (1, .mp (.i .i64) heldT m), (2, .row evT e)], 3⟩).run = some (.normal, st1 x m e) := by kernel_rfl
theorem r1_run (x : Int) (m : Helds) (e : Evs) : (evalCode PH TH 21 3 20 noL (.region 1 (opsAt cHeld [0, 1]) false) true [] (st1 x m e)).run = some (.normal, st2 x m e) := by kernel_rfl
theorem o24 : ∃ t k v, (opAt cHeld pR2 4).op = .range t (.tmp 8) ∧ PH.underlying t = some (.map k v) ∧ (opAt cHeld pR2 4).dst = some 9 ∧ (opAt cHeld pR2 4).guard = none := ⟨76, 3, 80, by kernel_rfl, by kernel_rfl, by kernel_rfl, by kernel_rfl⟩
theorem o30 : (opAt cHeld pR3 0).op = .next (.tmp 9) false ∧ (opAt cHeld pR3 0).dst = some 10 ∧ (opAt cHeld pR3 0).guard = none := ⟨by kernel_rfl, by kernel_rfl, by kernel_rfl⟩
theorem o40 : (opAt cHeld pR4 0).op = .entry (.tmp 9) ∧ (opAt cHeld pR4 0).dst = some 12 ∧ (opAt cHeld pR4 0).guard = none := ⟨by kernel_rfl, by kernel_rfl, by kernel_rfl⟩
theorem st1_run (o : AV) (hp : Hp) (b0 : Nat) (b : Bool) (l : List Part) : (stepsT PH TH 21 (opsAt cHeld pR3) [opAt cHeld pR3 1] ⟨[(10, .t (.one (.v (.bool b)) :: l)), (3, AV.c (.h 3)), (9, AV.c (.v (ptrV b0)))], hp, 4⟩).run = some ⟨[(11, AV.b b), (10, .t (.one (.v (.bool b)) :: l)), (3, AV.c (.h 3)), (9, AV.c (.v (ptrV b0)))], hp, 4⟩ := by kernel_rfl
theorem st4_run (k : Int) (v : Value) (hp : Hp) (b0 : Nat) : (stepsT PH TH 21 (opsAt cHeld pR4) [opAt cHeld pR4 1, opAt cHeld pR4 2] ⟨[(12, .t [.one (.v (.int .i64 k)), .one (.v v)]), (3, AV.c (.h 3)), (9, AV.c (.v (ptrV b0)))], hp, 4⟩).run = some ⟨[(4, AV.c (.v (.int .i64 k))), (13, AV.c (.v (.int .i64 k))), (12, .t [.one (.v (.int .i64 k)), .one (.v v)]), (3, AV.c (.h 3)), (9, AV.c (.v (ptrV b0)))], hp, 4⟩ := by kernel_rfl
theorem end_run (x : Int) (m : Helds) (e : Evs) (l : Ints) (b0 : Nat) : ((evalCode PH TH 21 3 20 noL cEnd true [] (stL x m e l b0)).bind fun y => match y.1 with
    | .exit _ => .fail
    | _ => (resultsT PH (getH y.2.hp) (Go.Sz.look y.2.env) Try.f19.results.toList).bind fun ps => outT 3 [] ps y.2).run =
    (Tree.ite (decC (l.length ≤ 1000000)) (.ret (AV.c (.h 3), [obL x, .mp (.i .i64) heldT m, .row evT e, .row intsT (sorted l)])) .fail).run := by kernel_rfl
def keyI (e : MapEntry) : Int × Unit := match e.key with
  | .int _ k => (k, ())
  | _ => (0, ())
theorem entries_keys {F : Frag} : ∀ {m : Helds} {es : List MapEntry}, entriesRep F (.i .i64) heldT m es → es.map keyI = ids m ∧ ∀ y ∈ es, y.key = .int .i64 (keyI y).1
  | [], [], _ => ⟨rfl, fun _ h => by cases h⟩
  | [], _ :: _, h => h.elim
  | _ :: _, [], h => h.elim
  | z :: m, y :: es, h => by
    obtain ⟨h1, _, h3⟩ := h
    obtain ⟨g1, g2⟩ := entries_keys h3
    simp only [RepT] at h1
    have hk : keyI y = (z.1, ()) := by unfold keyI; rw [h1]
    refine ⟨by rw [List.map_cons, hk, g1]; rfl, fun u hu => ?_⟩
    rcases List.mem_cons.1 hu with rfl | hu
    · rw [hk]; exact h1
    · exact g2 u hu
section
variable {N m : Nat} {w0 : World} {S : Nat → Nat → Prop} {R0 : Frag} {r0 : Sz.Loc}
theorem _root_.Go.Sz.Conc.hide {env : Env} {hp hp' : Hp} {nx : Nat} {F : Frag} {r : Sz.Loc} {a : Act} {w : World} (h : Conc N w0 S R0 m r0 ⟨env, hp, nx⟩ F r a w) (hs : ∀ j ob, getH hp' j = some ob → getH hp j = some ob) :
    Conc N w (OwnL (getH hp') r) F m r0 ⟨env, hp', nx⟩ F r a w := ⟨h.defers, h.size, h.env, h.inn, h.mem.hide hs, h.par, h.mle⟩
theorem _root_.Go.Sz.Conc.put' {env : Env} {hp : Hp} {nx : Nat} {F : Frag} {r : Sz.Loc} {a : Act} {w : World} (h : Conc N w0 S R0 m r0 ⟨env, hp, nx⟩ F r a w) {d : Nat} (hd : Nat.blt d N = true) {av : AV} {v : Value} (hv : av.rep F r v) (hi : av.inn fun j => j < nx) {w' : World}
    (hm : Mem w0 S R0 (fun j => j < nx) (getH hp) F r w') : Conc N w0 S R0 m r0 ⟨(d, av) :: env, hp, nx⟩ F r (a.put (some d) v) w' := by
  have := h.step (w' := w') (v := v) (env := env) rfl (o := { (default : Oper) with dst := some d }) (eff := ⟨some av, [], 0⟩) (st' := ⟨(d, av) :: env, hp, nx⟩) (by
    unfold doEff
    simp only [dstOk, effOk, hd]
    rfl) ⟨fun _ _ => rfl, Frag.le_refl F, hm.monoD (fun j hj => .inl hj), fun av' hav => by
      injection hav with hav; subst hav
      exact ⟨hv, AV.inn_mono (fun j hj => .inl hj) hi⟩⟩
  exact this
end
section
variable {w0 : World} {S : Nat → Nat → Prop} {R0 : Frag} {r0 : Sz.Loc} {x : Int} {m : Helds} {e : Evs}
theorem hpS_sub {l : Ints} : ∀ j ob, getH (hpS x e l) j = some ob → getH (hpL x m e l) j = some ob := by
  intro j ob h
  match j, h with
  | 0, h => exact h
  | 2, h => exact h
  | 3, h => exact h
  | 1, h => cases h
  | j + 4, h => cases h
theorem hpL_ext {l : Ints} : (fun j => if j = 1 then some (Ob.mp (.i .i64) heldT m) else getH (hpS x e l) j) = getH (hpL x m e l) := by
  funext j
  match j with
  | 0 => rfl
  | 1 => rfl
  | 2 => rfl
  | 3 => rfl
  | j + 4 => rfl
theorem unhide {env env' : Env} {l l' : Ints} {F F' : Frag} {r r' : Sz.Loc} {a a' : Act} {w w' : World} (h : Conc 21 w0 S R0 3 r0 ⟨env, hpL x m e l, 4⟩ F r a w) (k : Conc 21 w (OwnL (getH (hpS x e l)) r) F 3 r0 ⟨env', hpS x e l', 4⟩ F' r' a' w') :
    Conc 21 w0 S R0 3 r0 ⟨env', hpL x m e l', 4⟩ F' r' a' w' := by
  refine ⟨k.defers, k.size, k.env, k.inn, ?_, k.par, k.mle⟩
  have := (h.mem.back hpS_sub k.mem (j0 := 1) (ob0 := .mp (.i .i64) heldT m) rfl rfl rfl (by show 1 < 4; omega) (by rw [k.par 1 (by omega), h.par 1 (by omega)])).1
  rw [hpL_ext] at this
  exact this
theorem apart_map {env : Env} {l : Ints} {F : Frag} {r : Sz.Loc} {a : Act} {w : World} (h : Conc 21 w0 S R0 3 r0 ⟨env, hpL x m e l, 4⟩ F r a w) : ∀ o, ¬ OwnL (getH (hpS x e l)) r (r0 1).b o := by
  rintro o ⟨j, ob, h1, h2⟩
  refine h.mem.disj 1 j (.mp (.i .i64) heldT m) ob (r0 1).b o rfl (hpS_sub _ _ h1) (fun e => ?_) ?_ h2
  · subst e; cases h1
  · show (r0 1).b = (r 1).b
    rw [h.par 1 (by omega)]
theorem apart_iter {env : Env} {l : Ints} {F : Frag} {r : Sz.Loc} {a : Act} {w : World} {b : Nat} (h : Conc 21 w0 S R0 3 r0 ⟨env, hpL x m e l, 4⟩ F r a w) (hb : IsIter w b) : ∀ o, ¬ OwnL (getH (hpS x e l)) r b o := by
  rintro o ⟨j, ob, h1, h2⟩
  exact (h.mem.obs j ob (hpS_sub _ _ h1)).notIter h2 hb
def LpI (w0 : World) (S : Nat → Nat → Prop) (R0 : Frag) (r0 : Sz.Loc) (x : Int) (m : Helds) (e : Evs) (b0 : Nat) (es : Array MapEntry) (clock since : Nat) (n : Nat) (a : Act) (w : World) : Prop :=
  ∃ F r l seen c0, Conc 21 w0 S R0 3 r0 (stL x m e l b0) F r a w ∧ w.heap[(r0 1).b]? = some (.map es clock) ∧ w.heap[b0]? = some (.mapIter (some (r0 1).b) since seen c0) ∧ since ≤ c0 ∧ n = (leftOf es seen).size ∧ (l ++ (leftOf es seen).toList.map keyI).Perm (ids m) ∧ w0.heap.size ≤ b0
theorem Fr.setIter {w : World} {b : Nat} {m0 : Option Nat} {s c : Nat} {seen : Array Nat} (hb : w.heap[b]? = some (.mapIter m0 s seen c)) (m' : Option Nat) (s' c' : Nat) (seen' : Array Nat) : Fr (fun b' _ => b' = b) w (ChangeMaps.setBlock w b (.mapIter m' s' seen' c')) := by
  have hlt := (Array.getElem?_eq_some_iff.1 hb).1
  have hne : ∀ b', b' ≠ b → (ChangeMaps.setBlock w b (.mapIter m' s' seen' c')).heap[b']? = w.heap[b']? := fun b' h => by
    simp only [ChangeMaps.setBlock]
    rw [Array.getElem?_setIfInBounds_ne (Ne.symm h)]
  have hself : (ChangeMaps.setBlock w b (.mapIter m' s' seen' c')).heap[b]? = some (.mapIter m' s' seen' c') := by
    simp only [ChangeMaps.setBlock]
    rw [Array.getElem?_setIfInBounds_self_of_lt hlt]
  refine ⟨rfl, rfl, rfl, by simp [ChangeMaps.setBlock], fun b' o _ hn => ?_, fun b' o hlt' => ?_, fun b' _ hn => hne b' (fun e => hn 0 e)⟩
  · exact World.cell?_of_block (hne b' hn)
  · by_cases e : b' = b
    · subst e
      simp [World.frozen?, hself, hb]
    · exact World.frozen?_of_block (hne b' e)

theorem eval9 {N : Nat} {env : Env} {hp : Hp} {nx : Nat} {F : Frag} {r : Sz.Loc} {a : Act} {w : World} {b0 : Nat} (h : Conc N w0 S R0 3 r0 ⟨env, hp, nx⟩ F r a w) (he : Sz.look env 9 = some (AV.c (.v (ptrV b0)))) : a.eval (.tmp 9) = ptrV b0 :=
  evalO_rep (x := .tmp 9) h.env he
theorem range2 : List.range (opsAt cHeld pR3).size = 0 :: (List.range' 1 1 ++ []) := by rw [o3_eq]; rfl
theorem range3 : List.range (opsAt cHeld pR4).size = 0 :: (List.range' 1 2 ++ []) := by rw [o4_eq]; rfl
theorem loop_wp (hk : Kn.ok R0) {b0 : Nat} {es : Array MapEntry} {clock since : Nat} (hold : ∀ y ∈ es.toList, y.born < since) (hsc : since ≤ clock) (hnd : (es.toList.map (·.born)).Nodup) (hkeys : ∀ y ∈ es.toList, y.key = .int .i64 (keyI y).1) (hlen : m.length ≤ 1000000)
    {n : Nat} {a : Act} {w : World} (h : LpI w0 S R0 r0 x m e b0 es clock since n a w) : (Code.loop cLoopB).wp PH (fun ex a w => ex = .exit 0 ∧ ∃ F r l, l.Perm (ids m) ∧ Conc 21 w0 S R0 3 r0 (stL x m e l b0) F r a w) a w := by
  refine wp_loop_ghost (LpI w0 S R0 r0 x m e b0 es clock since) n h ?_
  rintro n a w ⟨F, r, l, seen, c0, hc, hb, hi, hs, rfl, hp, hn⟩
  have hit : IsIter w b0 := ⟨_, _, _, _, hi⟩
  have hev := eval9 hc rfl
  refine wp_seq (wp_region ?_)
  rw [range2]
  rcases run_next_at (P := PH) w (opAt cHeld pR3 0).type b0 (r0 1).b since c0 seen es clock hi hb hold hs with ⟨h0, hrun⟩ | ⟨y, hy, w1, hal, hrun⟩
  · refine wpOps_one (o := opAt cHeld pR3 0) (v := .tuple #[.bool false]) (w' := w) (by rw [o3_eq]; rfl) o30.2.2 (by simp [execOp, o30.1, hev, hrun, Result.andThen]) ?_
    rw [o30.2.1]
    have hc1 := hc.put' (d := 10) rfl (av := .t [.one (.v (.bool false))]) (v := .tuple #[.bool false]) ⟨[.bool false], ⟨rfl, trivial⟩, rfl⟩ (fun z hz => by rcases List.mem_singleton.1 hz with rfl; trivial) hc.mem
    refine stepsT_wp tokH hk [] [opAt cHeld pR3 1] [] 1 _ F r _ w (fun i o ho => ?_) (st1_run (AV.t []) _ b0 false []) hc1 (fun F' r' a' w' hc2 => ?_)
    · cases i with
      | zero => rw [o3_eq]; simpa using ho
      | succ i => simp at ho
    · show (Code.seq _ _).wp _ _ _ _
      refine wp_seq (wp_cond_false (evalO_rep (x := .tmp 11) hc2.env rfl) (wp_exit ?_))
      refine ⟨rfl, F', r', l, ?_, ?_⟩
      · have : (leftOf es seen).toList = [] := by
          have := Array.eq_empty_of_size_eq_zero h0
          rw [this]
        rw [this] at hp
        simpa using hp
      · exact hc2.restr [3, 9]
  · obtain ⟨hye, hys⟩ := mem_left hy
    have hyk := hkeys y hye
    let w2 := ChangeMaps.setBlock w1 b0 (.mapIter (some (r0 1).b) since (seen.push y.born) clock)
    have hi1 : w1.heap[b0]? = some (.mapIter (some (r0 1).b) since seen c0) := by rcases hal with rfl | rfl <;> exact hi
    have hb1 : w1.heap[(r0 1).b]? = some (.map es clock) := by rcases hal with rfl | rfl <;> exact hb
    have hfr : Fr (fun b' _ => b' = b0) w w2 := by
      have := Fr.setIter hi1 (some (r0 1).b) since clock (seen.push y.born)
      rcases hal with rfl | rfl
      · exact this
      · exact ((Fr.refl (fun b' _ => b' = b0) w).drew).trans this (fun _ _ _ h => h)
    have hm2 : Mem w0 S R0 (fun j => j < 4) (getH (hpL x m e l)) F r w2 := hc.mem.iter hit hn hfr
    have hlt := (Array.getElem?_eq_some_iff.1 hi1).1
    have hi2 : w2.heap[b0]? = some (.mapIter (some (r0 1).b) since (seen.push y.born) clock) := by
      simp only [w2, ChangeMaps.setBlock]
      rw [Array.getElem?_setIfInBounds_self_of_lt hlt]
    have hne : (r0 1).b ≠ b0 := fun e => by rw [e, hi] at hb; cases hb
    have hb2 : w2.heap[(r0 1).b]? = some (.map es clock) := by
      simp only [w2, ChangeMaps.setBlock]
      rw [Array.getElem?_setIfInBounds_ne (Ne.symm hne)]; exact hb1
    refine wpOps_one (o := opAt cHeld pR3 0) (v := .tuple #[.bool true, y.key, y.val]) (w' := w2) (by rw [o3_eq]; rfl) o30.2.2 (by simp [execOp, o30.1, hev, hrun, Result.andThen]; rfl) ?_
    rw [o30.2.1]
    have hc1 := hc.put' (d := 10) rfl (av := .t [.one (.v (.bool true)), .one (.v y.key), .one (.v y.val)]) (v := .tuple #[.bool true, y.key, y.val]) ⟨[.bool true, y.key, y.val], ⟨rfl, rfl, rfl, trivial⟩, rfl⟩ (fun z hz => by
      simp only [List.mem_cons, List.mem_nil_iff, or_false] at hz
      rcases hz with rfl | rfl | rfl <;> trivial) hm2
    have hap := apart_map hc1
    have hai := apart_iter hc1 ⟨_, _, _, _, hi2⟩
    have hltb : (r0 1).b < w2.heap.size := (Array.getElem?_eq_some_iff.1 hb2).1
    have hlti : b0 < w2.heap.size := (Array.getElem?_eq_some_iff.1 hi2).1
    have hkF : Kn.ok F := Kn.mono _ _ hc.mem.base hk
    have hh := hc1.hide hpS_sub
    refine stepsT_wp tokH hkF [] [opAt cHeld pR3 1] [] 1 _ F r _ w2 (fun i o ho => ?_) (st1_run (AV.t []) _ b0 true _) hh (fun F3 r3 a3 w3 hc3 => ?_)
    · cases i with
      | zero => rw [o3_eq]; simpa using ho
      | succ i => simp at ho
    · show (Code.seq _ _).wp _ _ _ _
      refine wp_seq (wp_cond_true (evalO_rep (x := .tmp 11) hc3.env rfl) (wp_skip ?_))
      show (Code.block _ _).wp _ _ _ _
      refine wp_block (wp_seq (wp_region ?_))
      rw [range3]
      have hi3 : w3.heap[b0]? = some (.mapIter (some (r0 1).b) since (seen.push y.born) clock) := (hc3.mem.frame.block b0 hlti hai).trans hi2
      have hb3 : w3.heap[(r0 1).b]? = some (.map es clock) := (hc3.mem.frame.block _ hltb hap).trans hb2
      have hent := run_entry_at (P := PH) w3 b0 (r0 1).b since seen es clock y hi3 hb3 hye hnd
      have hev3 := eval9 hc3 rfl
      refine wpOps_one (o := opAt cHeld pR4 0) (v := .tuple #[y.key, y.val]) (w' := w3) (by rw [o4_eq]; rfl) o40.2.2 (by simp [execOp, o40.1, hev3, hent, Result.andThen]) ?_
      rw [o40.2.1]
      have hc4 := (hc3.restr [3, 9]).put' (d := 12) rfl (av := .t [.one (.v (.int .i64 (keyI y).1)), .one (.v y.val)]) (v := .tuple #[y.key, y.val]) ⟨[y.key, y.val], ⟨hyk, rfl, trivial⟩, rfl⟩ (fun z hz => by
        simp only [List.mem_cons, List.mem_nil_iff, or_false] at hz
        rcases hz with rfl | rfl <;> trivial) hc3.mem
      refine stepsT_wp tokH hkF [] [opAt cHeld pR4 1, opAt cHeld pR4 2] [] 1 _ F3 r3 _ w3 (fun i o ho => ?_) (st4_run (keyI y).1 y.val _ b0) hc4 (fun F5 r5 a5 w5 hc5 => ?_)
      · match i, ho with
        | 0, ho => rw [o4_eq]; simpa using ho
        | 1, ho => rw [o4_eq]; simpa using ho
        | i + 2, ho => simp at ho
      · have hc6 := hc5.restr [4, 3, 9]
        have hpl := hp.length_eq
        simp only [ids, List.length_map, List.length_append] at hpl
        have hg := end_goes (code_wp (w0 := w2) (S := OwnL (getH (hpS x e l)) r) (R0 := F) (r0 := r0) tokH hkF Try.checked.mixed (noL_ok PH TH 21 3 20 (.region 5 (opsAt cHeld pR5) false)) (.region 5 (opsAt cHeld pR5) false) [] rfl true) oR5 (st5 x e l b0 (keyI y).1) (stS x e (l ++ [((keyI y).1, ())]) b0) .normal F5 r5 a5 w5
          ((r5_run x (keyI y).1 e l b0).trans (goT (by simp [bytesOk_dec]; omega))) hc6
        refine wp_mono hg ?_
        rintro ex a7 w7 ⟨rfl, F7, r7, hc7⟩
        have hperm := leftOf_push hnd hy
        show ∃ n', n' < _ ∧ LpI w0 S R0 r0 x m e b0 es clock since n' a7 w7
        refine ⟨(leftOf es (seen.push y.born)).size, left_shrinks es seen y hy, F7, r7, l ++ [((keyI y).1, ())], seen.push y.born, clock, unhide hc1 hc7, ?_, ?_, hsc, rfl, ?_, hn⟩
        · exact (hc7.mem.frame.block _ hltb hap).trans hb2
        · exact (hc7.mem.frame.block b0 hlti hai).trans hi2
        · refine List.Perm.trans ?_ hp
          rw [List.append_assoc]
          refine List.Perm.append_left l ?_
          have := (hperm.map keyI).symm
          exact this

end
theorem _root_.Go.So.Rise.pair : ∀ {m : Helds} {b : Int}, Rise b m → (ids m).Pairwise fun a b => a.1 < b.1
  | [], _, _ => List.Pairwise.nil
  | z :: m, b, ⟨q1, q2⟩ => List.Pairwise.cons (fun u hu => by
    obtain ⟨p, hp, rfl⟩ := List.mem_map.1 hu
    exact q2.all p hp) q2.pair
theorem range5 : List.range (opsAt cHeld pR2).size = List.range' 0 4 ++ [4] := by rw [o2_eq]; rfl
theorem held_ok : SummOk Kn PH 19 heldS := by
  refine .inr ⟨⟨Try.f19, Try.func19, by kernel_rfl, by rfl⟩, fun args H H' v hg _ F r w us hk hpre ha hi => ?_⟩
  simp only [heldS, sumT] at hg
  split at hg
  · rename_i ax y hx hy
    have hargs : args = [AV.c (.p 0 0)] := decAs_eq hx
    have hH := decOs_eq hy
    obtain ⟨⟨x, _, _, _⟩, m, e, _⟩ := y
    have hH : H = [obL x, .mp (.i .i64) heldT m, .row evT e] := hH
    subst hargs; subst hH
    obtain ⟨⟨hr, hl⟩, hg⟩ := ckP_run hg
    change Rise 0 m at hr
    change m.length ≤ 1000000 at hl
    refine calls_of_leads (fn := Try.f19) Try.func19 body_held (rc := []) (Q := fun ex st => (∀ id, ex ≠ .exit id) ∧ ((resultsT PH (getH st.hp) (Go.Sz.look st.env) Try.f19.results.toList).bind fun ps => outT 3 [] ps st).run = some (v, H')) (of_decide_eq_true (by kernel_rfl)) ?_ (fun ex st h => h) hpre ha hi
    intro F r0 a w1 hc
    have hk0 := hk
    rw [cHeld_eq]
    refine wp_seq (wp_mono (code_wp tokH hk Try.checked.mixed (noL_ok PH TH 21 3 20 (.region 0 (opsAt cHeld [0]) false)) (.region 0 (opsAt cHeld [0]) false) [] rfl true _ _ _ _ r0 a w1 (r0_run x m e) hc) ?_)
    rintro e1 a1 w1 ⟨rfl, F1, r1, hc1⟩
    show (Code.seq _ _).wp _ _ _ _
    refine wp_seq (wp_mono (code_wp tokH hk Try.checked.mixed (noL_ok PH TH 21 3 20 (.region 1 (opsAt cHeld [0, 1]) false)) (.region 1 (opsAt cHeld [0, 1]) false) [] rfl true _ _ _ _ r1 a1 w1 (r1_run x m e) hc1) ?_)
    rintro e2 a2 w2 ⟨rfl, F2, r2, hc2⟩
    show (Code.seq _ _).wp _ _ _ _
    refine wp_seq (wp_seq (wp_region ?_))
    rw [range5]
    obtain ⟨s3, h3, h3'⟩ := Tree.run_bind_some (r2_run x m e)
    obtain ⟨s4, h4, h4'⟩ := Tree.run_bind_some h3'
    rw [Tree.run_ofOpt] at h4'
    refine stepsT_wp tokH hk [4] [opAt cHeld pR2 0, opAt cHeld pR2 1, opAt cHeld pR2 2, opAt cHeld pR2 3] [] 0 _ F2 r2 a2 w2 (fun i o ho => ?_) h3 hc2 (fun F3 r3 a3 w3 hc3 => ?_)
    · rw [o2_eq]
      match i, ho with
      | 0, ho => simpa using ho
      | 1, ho => simpa using ho
      | 2, ho => simpa using ho
      | 3, ho => simpa using ho
      | i + 4, ho => simp at ho
    · obtain ⟨r4, hc4⟩ := hsT_conc PH hc3 h4
      obtain ⟨r5, hc5⟩ := hc4.canon h4'
      obtain ⟨hhv, es, clock, hb, hent, hpw, hcl⟩ := hc5.mem.obs 1 (.mp (.i .i64) heldT m) rfl
      obtain ⟨hkeys1, hkeys2⟩ := entries_keys hent
      have hev : a3.eval (.tmp 8) = .map (some (r5 1).b) := (evalO_rep (x := .tmp 8) hc5.env (av := AV.c (.h 1)) rfl).1.trans hhv
      have hpar : r5 1 = r 1 := hc5.par 1 (by show 1 < 3; omega)
      obtain ⟨t, k, ve, ho, ht, hd, hgd⟩ := o24
      refine wpOps_one (o := opAt cHeld pR2 4) (v := ptrV w3.heap.size) (w' := w3.alloc (.mapIter (some (r5 1).b) clock #[] clock)) (by rw [o2_eq]; rfl) hgd (by simp [execOp, ho, hev, run_range_map w3 t k ve _ es clock ht hb, Result.andThen]) ?_
      rw [hd]
      have hfr : Fr (fun _ _ => False) w3 (w3.alloc (.mapIter (some (r5 1).b) clock #[] clock)) := Fr.of_below ((RowKit.Below.refl _ _).alloc (Nat.le_refl _) _) _
      have hc6 := ((hc5.restr [3, 8]).put' (d := 9) rfl (av := AV.c (.v (ptrV w3.heap.size))) (v := ptrV w3.heap.size) rfl trivial (hc5.mem.more hfr)).restr [3, 9]
      show (Code.block _ _).wp _ _ _ _
      have hnd : (es.toList.map (·.born)).Nodup := by
        rw [List.nodup_iff_pairwise_ne, List.pairwise_map]
        exact hpw.imp fun h => Nat.ne_of_lt h
      have hleft : (leftOf es #[]).toList = es.toList := by
        unfold leftOf
        rw [Array.toList_filter]
        exact List.filter_eq_self.2 fun _ _ => by simp
      refine wp_block (wp_mono (loop_wp hk hcl (Nat.le_refl _) hnd hkeys2 hl (n := (leftOf es #[]).size) (b0 := w3.heap.size) ⟨F3, r5, [], #[], clock, hc6, ?_, ?_, Nat.le_refl _, rfl, ?_, hc5.mem.frame.size⟩) ?_)
      · rw [← hpar]
        exact (hfr.block _ (Array.getElem?_eq_some_iff.1 hb).1 fun _ h => h).trans hb
      · rw [← hpar]
        exact (MapKept.heap_alloc w3 _).1
      · rw [hleft, hkeys1]; exact List.Perm.refl _
      · rintro e7 a7 w7 ⟨rfl, F7, r7, l, hperm, hc7⟩
        show cEnd.wp _ _ _ _
        have hlen : l.length ≤ 1000000 := by have := hperm.length_eq; simp only [ids, List.length_map] at this; omega
        obtain ⟨⟨ex, st⟩, g1, g2⟩ := Tree.run_bind_some ((end_run x m e l _).trans (goC hlen))
        refine wp_mono (code_wp tokH hk Try.checked.mixed (noL_ok PH TH 21 3 20 cEnd) cEnd [] rfl true _ st ex F7 r7 a7 w7 g1 hc7) ?_
        have hso : sorted l = ids m := by
          exact sorted_perm' hperm hr.pair
        rintro ee a8 w8 hpost
        refine ⟨ex, st, ?_, hpost⟩
        rw [hso] at g2
        cases ex with
        | exit id => cases g2
        | normal => exact ⟨(fun _ h => by cases h), g2.trans hg⟩
        | ret => exact ⟨(fun _ h => by cases h), g2.trans hg⟩
  · cases hg

theorem ok_held : SummOk Kn Try.prog 19 heldS := held_ok
noncomputable def L_held : List (Nat × Summ) := (19, heldS) :: L_sort
theorem tok_held : TOk Kn Try.prog (lk L_held) := lk_cons ok_held tok_sort

end Go.Proofs.Ytebimchjglckoaa.led
