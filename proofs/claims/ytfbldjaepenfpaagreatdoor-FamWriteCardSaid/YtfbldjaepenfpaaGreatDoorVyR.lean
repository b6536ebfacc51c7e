/-
  The verifier: a method that defers a function of its own which catches a panic.
-/
import Derived.Recover
import Derived.Test.YtfbldjaepenfpaaGreatDoorVyS
noncomputable section
namespace Go.Vy
open Go Go.Sy Go.Sz
set_option linter.unusedVariables false
set_option linter.unusedSimpArgs false
def fstC : Code → Code
  | .seq x _ => x
  | c => c
def restC : Code → Code
  | .seq _ (.seq _ r) => r
  | c => c
def tailC : Code → Code
  | .seq _ r => r
  | c => c
def outsR (P : Program) (fn : Func) (m : Nat) (st : St) : Tree (AV × List Ob) :=
  (resultsT P (getH st.hp) (Sz.look st.env) fn.results.toList).bind fun ps => (outT m [] ps st).bind retT
def caughtT (P : Program) (T : Tab) (fuel : Nat) (fn gn : Func) (g : Code) (m k : Nat) (q : Part) (st : St) : Tree (AV × List Ob) := match Sz.look st.env 2 with
  | some (.p (.one (.p k' 0))) => bif Nat.beq k' k && Nat.blt k st.nx then
      (evalCode P T gn.ntmps st.nx fuel noL (tailC g) false [] ⟨[(0, .p (.one (.p k 0))), (1, .p q)], st.hp, st.nx⟩).bind fun y => match y.1 with
        | .normal => outsR P fn m ⟨[(2, .p (.one (.p k 0)))], y.2.hp, y.2.nx⟩
        | .ret => outsR P fn m ⟨[(2, .p (.one (.p k 0)))], y.2.hp, y.2.nx⟩
        | _ => .fail
    else .fail
  | _ => .fail
def catchE (P : Program) (T : Tab) (fuel : Nat) (fn gn : Func) (c g : Code) (args : List AV) (H : List Ob) : Tree (AV × List Ob) :=
  bif Nat.ble args.length fn.ntmps then
    (evalCode P T fn.ntmps H.length fuel noL (fstC c) false [] ⟨argEnv args 0, numOb H 0, H.length⟩).bind fun x0 => match x0.1 with
    | .normal => match Sz.look x0.2.env 2 with
      | some (.p (.one (.p k 0))) => bif (Sz.look x0.2.env 5).isNone && Nat.blt k x0.2.nx then
          (evalCode P T fn.ntmps x0.2.nx fuel noL (restC c) false [] x0.2).bind fun x => match x.1 with
            | .exit _ => .fail
            | .normal => caughtT P T fuel fn gn g H.length k (.one (.v .nilIface)) x.2
            | .ret => caughtT P T fuel fn gn g H.length k (.one (.v .nilIface)) x.2
            | .pan q => caughtT P T fuel fn gn g H.length k q x.2
        else .fail
      | _ => .fail
    | _ => .fail
  else .fail
def recO (t1 : TypeId) (p1 : String) (e1 : Array Edge) : Oper := ⟨some 4, .call ⟨.builtin .recover, #[], #[]⟩, t1, p1, e1, none⟩
def asgO (t1 : TypeId) (p1 : String) (e1 : Array Edge) : Oper := ⟨some 1, .assign (.tmp 4), t1, p1, e1, none⟩
def mkfO (f : FuncId) (t1 : TypeId) (p1 : String) (e1 : Array Edge) : Oper := ⟨some 5, .makeFunc (.func f) #[] #[.tmp 2], t1, p1, e1, none⟩
def dfrO (t1 : TypeId) (p1 : String) (e1 : Array Edge) : Oper := ⟨none, .defer ⟨.value (.tmp 5), #[], #[]⟩, t1, p1, e1, none⟩
theorem outsR_spec {P : Program} {fn : Func} {F0 : Frag} {r : Sz.Loc} {H H' : List Ob} {v : AV} {w w1 : World} {st : St} {F1 : Frag} {r1 : Sz.Loc} {a1 : Act}
    (hc1 : Conc [] fn.ntmps w (OwnL (nthH H) r) F0 H.length r st F1 r1 a1 w1) (hr : (outsR P fn H.length st).run = some (v, H')) :
    ∃ u, (results fn a1.tmps).run P w1 = .ok u w1 ∧ Post F0 r H w v H' (.returned u) w1 := by
  obtain ⟨ps, h3, h4⟩ := Tree.run_bind_some hr
  obtain ⟨⟨v0, H0⟩, h6, h5⟩ := Tree.run_bind_some h4
  have hnp : isPan v0 = none ∧ v0 = v ∧ H0 = H' := by
    unfold retT at h5
    simp only at h5
    split at h5
    · rename_i hn
      simp only [Tree.run, Option.some.injEq, Prod.mk.injEq] at h5
      exact ⟨hn, h5.1, h5.2⟩
    · cases h5
  obtain ⟨hnp, rfl, rfl⟩ := hnp
  obtain ⟨vs, g1, g2, g3, g4⟩ := resultsT_spec (P := P) hc1.env hc1.inn hc1.mem.sees _ _ h3
  obtain ⟨r', k1, k2, k3, k4, k5⟩ := outT_spec P hc1 g1 g2 h6
  refine ⟨_, ?_, _, F1, r', .inl ⟨hnp, rfl⟩, k1, k2, k3, k4, k5⟩
  have hmm := mapM_run (P := P) (w := w1) _ fn.results.toList vs g4 g3
  rw [results_eq, Array.mapM_eq_mapM_toList, Sem.run_bind, Sem.run_map, hmm]
  simp only [Result.andThen_ok, Sem.run_pure]
theorem reg2 {P : Program} {Q : Exit → Act → List Frame → World → Prop} {t1 t2 : TypeId} {p1 p2 : String} {e1 e2 : Array Edge} {a : Act} {cs cs' : List Frame} {w : World} {p : Value}
    (hr : (match recoverD cs with | some (v, cs') => (v, cs') | none => (Value.nilIface, cs)) = (p, cs')) (h4 : 4 < a.tmps.size) (h : Q .normal ((a.put (some 4) p).put (some 1) p) cs' w) :
    wpOpsS P #[recO t1 p1 e1, asgO t2 p2 e2] Q (List.range 2) a cs w := by
  have h4' : (a.put (some 4) p).eval (.tmp 4) = p := by
    show (a.tmps.setIfInBounds 4 p).getD 4 undef = p
    rw [Array.getD_eq_getD_getElem?, Array.getElem?_setIfInBounds_self_of_lt h4]
    rfl
  have h : Q .normal ((a.put (some 4) p).put (some 1) ((a.put (some 4) p).eval (.tmp 4))) cs' w := by rw [h4']; exact h
  have r1 : (execOp a.eval (recO t1 p1 e1)).run P w = .ok .recover w := rfl
  have r2 : ∀ b : Act, (execOp b.eval (asgO t2 p2 e2)).run P w = .ok (.value (b.eval (.tmp 4))) w := fun _ => rfl
  have g1 : ∀ ys, Region.wanted (recO t1 p1 e1) ys = true := fun _ => rfl
  have g2 : ∀ ys, Region.wanted (asgO t2 p2 e2) ys = true := fun _ => rfl
  show wpOpsS P #[recO t1 p1 e1, asgO t2 p2 e2] Q [0, 1] a cs w
  have hlast : ∀ b cs1, Q .normal (b.put (some 1) (b.eval (.tmp 4))) cs1 w → wpOpsS P #[recO t1 p1 e1, asgO t2 p2 e2] Q [1] b cs1 w := fun b cs1 hq => by
    simp only [wpOpsS, show (#[recO t1 p1 e1, asgO t2 p2 e2] : Array Oper)[1]? = some (asgO t2 p2 e2) from rfl, g2, if_true, r2]
    exact hq
  simp only [wpOpsS, show (#[recO t1 p1 e1, asgO t2 p2 e2] : Array Oper)[0]? = some (recO t1 p1 e1) from rfl, g1, if_true, r1]
  cases hrec : recoverD cs with
  | none =>
    rw [hrec] at hr
    simp only [Prod.mk.injEq] at hr
    obtain ⟨rfl, rfl⟩ := hr
    exact hlast _ _ h
  | some x =>
    obtain ⟨v, c'⟩ := x
    rw [hrec] at hr
    simp only [Prod.mk.injEq] at hr
    obtain ⟨rfl, rfl⟩ := hr
    exact hlast _ _ h
section
variable {K : Know} {P : Program} {T : Tab} (hT : TOk K P T) (hm : P.follows .mixedOrders = true)
  {g : FuncId} {gn : Func} {gc : Code} (hgf : P.funcs[g]? = some gn) (hgb : gn.body = some gc) (hgr : gn.results = #[]) (hgn : 5 ≤ gn.ntmps) (hgm : (gn.name == "runtime.NumGoroutine") = false)
  {i0 : Nat} {t1 t2 : TypeId} {p1 p2 : String} {e1 e2 : Array Edge} (hgc : gc = .seq (.region i0 #[recO t1 p1 e1, asgO t2 p2 e2] false) (tailC gc))
include hT hm hgf hgb hgr hgn hgm hgc
theorem caught_leaves {fuel : Nat} {fn : Func} {w0 w : World} {F0 F : Frag} {r0 r : Sz.Loc} {H H' : List Ob} {v : AV} {st : St} {a : Act} {q : Part} {p : Value} {u : FrameMode} {k : Nat} {x2 : Value}
    (hk : K.ok F0) (hc : Conc [⟨.fn (.func g) #[x2], #[]⟩] fn.ntmps w0 (OwnL (nthH H) r0) F0 H.length r0 st F r a w) (hx' : x2 = .pointer (some ⟨(r k).b, (r k).o + 0, none⟩))
    (hq : q.rep F r p) (hqi : q.inn fun j => j < st.nx)
    (hu : (u = .returning ∧ p = .nilIface) ∨ u = .panicking [{ v := p, recovered := false }])
    (he : (caughtT P T fuel fn gn gc H.length k q st).run = some (v, H')) :
    Leaves P fn a.tmps (Post F0 r0 H w0 v H') a.defers u w := by
  have hx : (AV.p (.one (.p k 0))).rep F r x2 := hx'
  rw [hc.defers]
  refine ⟨by rcases hu with ⟨rfl, _⟩ | rfl <;> simp, .func g, #[x2], g, #[x2], rfl, ?_, ?_⟩
  · have h3 : ¬ gn.name = "runtime.NumGoroutine" := by simpa using hgm
    simp [invoke, callFunc, hgf, h3, hgb]
  · unfold caughtT at he
    split at he
    rotate_left
    · cases he
    rename_i k' h2
    cases hb : Nat.beq k' k && Nat.blt k st.nx with
    | false => rw [hb] at he; cases he
    | true =>
      rw [hb] at he
      simp only [cond_true] at he
      obtain ⟨hbk, hb⟩ := Bool.and_eq_true_iff.1 hb
      have hkk : k' = k := Nat.eq_of_beq_eq_true hbk
      subst hkk
      have hx2 : a.tmps[2]? = some x2 := by
        obtain ⟨y, hy1, hy2⟩ := hc.env 2 _ h2
        have hy2 : y = .pointer (some ⟨(r k').b, (r k').o + 0, none⟩) := hy2
        rw [hy1, hy2, hx']
      obtain ⟨⟨ex, y⟩, h3, h4⟩ := Tree.run_bind_some he
      have hkn : k' < st.nx := Nat.le_of_ble_eq_true hb
      refine callsD_of_wpS hgf hgb fun c₀ cs hc0 => ?_
      rw [hgc]
      refine wpS_seq (wpS_region ?_)
      have hsz : (#[x2] ++ Array.replicate (gn.ntmps - (#[x2] : Array Value).size) undef).size = gn.ntmps := by simp; omega
      obtain ⟨cs', a2, hcs, hwp, ha2⟩ : ∃ cs' : List Frame, ∃ a2 : Act, (∃ u', settle u' = .returning ∧ cs' = { c₀ with mode := u' } :: cs) ∧
          a2 = (({ tmps := #[x2] ++ Array.replicate (gn.ntmps - (#[x2] : Array Value).size) undef, defers := [] } : Act).put (some 4) p).put (some 1) p ∧
          (((tailC gc).wpS P (bodyPostS P gn c₀ cs fun
            | .returned _, u', w' => Leaves P fn a.tmps (Post F0 r0 H w0 v H') [] (settle u') w'
            | .panicked chain, u', w' => Leaves P fn a.tmps (Post F0 r0 H w0 v H') [] (raised u' chain) w'
            | .outgrown, _, w' => Post F0 r0 H w0 v H' .outgrown w') a2 cs' w) →
          wpOpsS P #[recO t1 p1 e1, asgO t2 p2 e2] (Exit.thenS ((tailC gc).wpS P (bodyPostS P gn c₀ cs fun
            | .returned _, u', w' => Leaves P fn a.tmps (Post F0 r0 H w0 v H') [] (settle u') w'
            | .panicked chain, u', w' => Leaves P fn a.tmps (Post F0 r0 H w0 v H') [] (raised u' chain) w'
            | .outgrown, _, w' => Post F0 r0 H w0 v H' .outgrown w')) (bodyPostS P gn c₀ cs fun
            | .returned _, u', w' => Leaves P fn a.tmps (Post F0 r0 H w0 v H') [] (settle u') w'
            | .panicked chain, u', w' => Leaves P fn a.tmps (Post F0 r0 H w0 v H') [] (raised u' chain) w'
            | .outgrown, _, w' => Post F0 r0 H w0 v H' .outgrown w')) (List.range 2) { tmps := #[x2] ++ Array.replicate (gn.ntmps - (#[x2] : Array Value).size) undef, defers := [] } (c₀ :: cs) w) := by
        rcases hu with ⟨rfl, rfl⟩ | rfl
        · have hr0 : recoverD (c₀ :: cs) = none := by simp only [recoverD, hc0]
          refine ⟨_, _, ⟨c₀.mode, by rw [hc0]; rfl, rfl⟩, rfl, fun h => ?_⟩
          exact reg2 (by rw [hr0]) (by rw [hsz]; omega) h
        · have hr0 : recoverD (c₀ :: cs) = some (p, { c₀ with mode := .panicking [{ v := p, recovered := true }] } :: cs) := by simp only [recoverD, hc0]
          refine ⟨_, _, ⟨.panicking [{ v := p, recovered := true }], rfl, rfl⟩, rfl, fun h => ?_⟩
          exact reg2 (by rw [hr0]) (by rw [hsz]; omega) h
      refine ha2 ?_
      obtain ⟨u', hset, rfl⟩ := hcs
      have hs1 : (({ tmps := #[x2] ++ Array.replicate (gn.ntmps - (#[x2] : Array Value).size) undef, defers := [] } : Act).put (some 4) p).tmps.size = gn.ntmps := by
        show (Array.setIfInBounds _ 4 p).size = _
        rw [Array.size_setIfInBounds, hsz]
      have hc2 : Conc [] gn.ntmps w0 (OwnL (nthH H) r0) F0 st.nx r ⟨[(0, .p (.one (.p k' 0))), (1, .p q)], st.hp, st.nx⟩ F r a2 w := by
        subst hwp
        refine ⟨rfl, ?_, fun j av hj => ?_, fun j av hj => ?_, hc.mem, fun _ _ => rfl, Nat.le_refl _⟩
        · show (Array.setIfInBounds _ 1 p).size = _
          rw [Array.size_setIfInBounds, hs1]
        · simp only [Sz.look_cons', Sz.look_nil] at hj
          cases hj0 : Nat.beq 0 j with
          | true =>
            rw [hj0] at hj
            simp only [cond_true, Option.some.injEq] at hj
            subst hj
            have : 0 = j := Nat.eq_of_beq_eq_true hj0
            subst this
            refine ⟨x2, ?_, hx⟩
            show (Array.setIfInBounds (Array.setIfInBounds _ 4 p) 1 p)[0]? = _
            rw [Array.getElem?_setIfInBounds_ne (by decide), Array.getElem?_setIfInBounds_ne (by decide)]
            rw [Array.getElem?_append_left (by simp)]
            rfl
          | false =>
            rw [hj0] at hj
            simp only [cond_false] at hj
            cases hj1 : Nat.beq 1 j with
            | true =>
              rw [hj1] at hj
              simp only [cond_true, Option.some.injEq] at hj
              subst hj
              have : 1 = j := Nat.eq_of_beq_eq_true hj1
              subst this
              refine ⟨p, ?_, hq⟩
              show (Array.setIfInBounds _ 1 p)[1]? = _
              rw [Array.getElem?_setIfInBounds_self_of_lt (by rw [hs1]; omega)]
            | false => rw [hj1] at hj; cases hj
        · simp only [Sz.look_cons', Sz.look_nil] at hj
          cases hj0 : Nat.beq 0 j with
          | true =>
            rw [hj0] at hj
            simp only [cond_true, Option.some.injEq] at hj
            subst hj
            exact hkn
          | false =>
            rw [hj0] at hj
            simp only [cond_false] at hj
            cases hj1 : Nat.beq 1 j with
            | true =>
              rw [hj1] at hj
              simp only [cond_true, Option.some.injEq] at hj
              subst hj
              exact hqi
            | false => rw [hj1] at hj; cases hj
      refine wpS_of_wp (wp_mono (code_wp hT hk hm (noL_ok _ _ _ _ _ _) (tailC gc) [] rfl false _ y ex F r a2 w h3 hc2) ?_)
      intro e a3 w3 hpc
      have fin : ∀ F3 r3, Conc [] gn.ntmps w0 (OwnL (nthH H) r0) F0 st.nx r y F3 r3 a3 w3 → (outsR P fn H.length ⟨[(2, .p (.one (.p k' 0)))], y.hp, y.nx⟩).run = some (v, H') →
          a3.defers = [] ∧ ∃ u1, ({ c₀ with mode := u' } :: cs : List Frame) = { c₀ with mode := u1 } :: cs ∧ ∃ v1, (results gn a3.tmps).run P w3 = .ok v1 w3 ∧ Leaves P fn a.tmps (Post F0 r0 H w0 v H') [] (settle u1) w3 := fun F3 r3 hc3 ho => by
        refine ⟨hc3.defers, u', rfl, .tuple #[], ?_, ?_⟩
        · rw [results_eq, hgr]; simp [Sem.run_pure]
        · rw [hset]
          have hcR : Conc [] fn.ntmps w0 (OwnL (nthH H) r0) F0 H.length r0 ⟨[(2, .p (.one (.p k' 0)))], y.hp, y.nx⟩ F3 r3 { tmps := a.tmps, defers := [] } w3 := by
            refine ⟨rfl, hc.size, fun j av hj => ?_, fun j av hj => ?_, hc3.mem, fun j hj => ?_, Nat.le_trans hc.mle hc3.mle⟩
            · simp only [Sz.look_cons', Sz.look_nil] at hj
              cases hj0 : Nat.beq 2 j with
              | true =>
                rw [hj0] at hj
                simp only [cond_true, Option.some.injEq] at hj
                subst hj
                have : 2 = j := Nat.eq_of_beq_eq_true hj0
                subst this
                refine ⟨x2, hx2, ?_⟩
                show x2 = .pointer (some ⟨(r3 k').b, (r3 k').o + 0, none⟩)
                rw [hc3.par k' hkn]
                exact hx'
              | false => rw [hj0] at hj; cases hj
            · simp only [Sz.look_cons', Sz.look_nil] at hj
              cases hj0 : Nat.beq 2 j with
              | true =>
                rw [hj0] at hj
                simp only [cond_true, Option.some.injEq] at hj
                subst hj
                exact Nat.lt_of_lt_of_le hkn hc3.mle
              | false => rw [hj0] at hj; cases hj
            · rw [hc3.par j (Nat.lt_of_lt_of_le hj hc.mle), hc.par j hj]
          have h9 := outsR_spec hcR ho
          exact h9
      cases ex with
      | exit id => cases h4
      | pan q' => cases h4
      | normal => obtain ⟨rfl, F3, r3, hc3⟩ := hpc; exact fin F3 r3 hc3 h4
      | ret => obtain ⟨rfl, F3, r3, hc3⟩ := hpc; exact fin F3 r3 hc3 h4
omit hT hm hgf hgb hgr hgn hgm hgc in
theorem reg2d {Q : Exit → Act → World → Prop} {t3 t4 : TypeId} {p3 p4 : String} {e3 e4 : Array Edge} {a : Act} {w : World} {x2 : Value} (hx2 : a.tmps[2]? = some x2) (h5 : 5 < a.tmps.size)
    (h : ∀ a' : Act, a'.defers = ⟨.fn (.func g) #[x2], #[]⟩ :: a.defers → a'.tmps.size = a.tmps.size → (∀ j, j ≠ 5 → a'.tmps[j]? = a.tmps[j]?) → Q .normal a' w) :
    wpOps P #[mkfO g t3 p3 e3, dfrO t4 p4 e4] Q (List.range 2) a w := by
  have hev : a.eval (.tmp 2) = x2 := by
    show a.tmps.getD 2 undef = x2
    rw [Array.getD_eq_getD_getElem?, hx2]; rfl
  have r1 : (execOp a.eval (mkfO g t3 p3 e3)).run P w = .ok (.value (.func (.func g) #[] #[x2])) w := by
    simp [execOp, mkfO, Instr.makeFunc, hev]
  have hev5 : (a.put (some 5) (.func (.func g) #[] #[x2])).eval (.tmp 5) = .func (.func g) #[] #[x2] := by
    show (a.tmps.setIfInBounds 5 _).getD 5 undef = _
    rw [Array.getD_eq_getD_getElem?, Array.getElem?_setIfInBounds_self_of_lt h5]
    rfl
  have r2 : (execOp (a.put (some 5) (.func (.func g) #[] #[x2])).eval (dfrO t4 p4 e4)).run P w = .ok (.defer ⟨.fn (.func g) #[x2], #[]⟩) w := by
    simp [execOp, dfrO, resolve, hev5, Deferred.ofValue]
  have g1 : ∀ ys, Region.wanted (mkfO g t3 p3 e3) ys = true := fun _ => rfl
  have g2 : ∀ ys, Region.wanted (dfrO t4 p4 e4) ys = true := fun _ => rfl
  show wpOps P #[mkfO g t3 p3 e3, dfrO t4 p4 e4] Q [0, 1] a w
  simp only [wpOps, show (#[mkfO g t3 p3 e3, dfrO t4 p4 e4] : Array Oper)[0]? = some (mkfO g t3 p3 e3) from rfl, show (#[mkfO g t3 p3 e3, dfrO t4 p4 e4] : Array Oper)[1]? = some (dfrO t4 p4 e4) from rfl, g1, g2, if_true]
  refine .inl ?_
  show Oper.upon P _ a _ Q _
  rw [r1]
  show _ ∨ _
  refine .inl ?_
  show Oper.upon P (dfrO t4 p4 e4) (a.put (some 5) (.func (.func g) #[] #[x2])) _ Q ((execOp (a.put (some 5) (.func (.func g) #[] #[x2])).eval (dfrO t4 p4 e4)).run P w)
  rw [r2]
  refine h _ rfl ?_ ?_
  · show (Array.setIfInBounds _ 5 _).size = _
    rw [Array.size_setIfInBounds]
  · intro j hj
    show (Array.setIfInBounds _ 5 _)[j]? = _
    rw [Array.getElem?_setIfInBounds_ne (Ne.symm hj)]
theorem calls_catch {fuel : Nat} {f : FuncId} {fn : Func} {c : Code} (hf : P.funcs[f]? = some fn) (hb : fn.body = some c)
    {i2 : Nat} {t3 t4 : TypeId} {p3 p4 : String} {e3 e4 : Array Edge} (hfc : c = .seq (fstC c) (.seq (.region i2 #[mkfO g t3 p3 e3, dfrO t4 p4 e4] false) (restC c))) (hfn : 6 ≤ fn.ntmps)
    {args : List AV} {H H' : List Ob} {v : AV} (he : (catchE P T fuel fn gn c gc args H).run = some (v, H')) {F : Frag} {r : Sz.Loc} {w : World} {us : List Value} (hk : K.ok F) (hpre : Pre F r H w)
    (ha : avsRep F r args us) (hi : ∀ a ∈ args, a.inn fun j => j < H.length) : Calls P f us.toArray w (Post F r H w v H') := by
  unfold catchE at he
  cases hble : Nat.ble args.length fn.ntmps with
  | false => rw [hble] at he; cases he
  | true =>
    rw [hble] at he
    simp only [cond_true] at he
    have hle : args.length ≤ fn.ntmps := Nat.le_of_ble_eq_true hble
    have hal := avsRep_length ha
    obtain ⟨⟨ex0, st0⟩, h1, h2⟩ := Tree.run_bind_some he
    let a0 : Act := { tmps := us.toArray ++ Array.replicate (fn.ntmps - us.toArray.size) undef, defers := [] }
    have hget : ∀ (as : List AV) (vs : List Value) (i : Nat) (av : AV), avsRep F r as vs → as[i]? = some av → ∃ v, vs[i]? = some v ∧ av.rep F r v := by
      intro as
      induction as with
      | nil => intro vs i av _ hi; simp at hi
      | cons x l ih =>
        intro vs i av hr hi
        cases vs with
        | nil => exact hr.elim
        | cons u vs =>
          cases i with
          | zero => simp at hi; subst hi; exact ⟨u, rfl, hr.1⟩
          | succ i => simpa using ih vs i av hr.2 (by simpa using hi)
    have hc : Conc [] fn.ntmps w (OwnL (nthH H) r) F H.length r ⟨argEnv args 0, numOb H 0, H.length⟩ F r a0 w := by
      refine ⟨rfl, by simp [a0]; omega, fun k av hk => ?_, fun k av hk => ?_, ?_, fun _ _ => rfl, Nat.le_refl _⟩
      · obtain ⟨_, h3⟩ := argEnv_look hk
        simp only [Nat.sub_zero] at h3
        obtain ⟨u, g1, g2⟩ := hget args us k av ha h3
        have hk' : k < us.length := (List.getElem?_eq_some_iff.1 g1).1
        refine ⟨u, ?_, g2⟩
        simp only [a0]
        rw [Array.getElem?_append_left (by simpa using hk')]
        simpa using g1
      · obtain ⟨_, h3⟩ := argEnv_look hk
        exact hi av (List.mem_of_getElem? h3)
      · rw [numOb_nth]; exact hpre
    refine calls_of_wp_defers hf hb ?_
    rw [hfc]
    refine wp_seq (wp_mono (code_wp hT hk hm (noL_ok _ _ _ _ _ _) (fstC c) [] rfl false _ st0 ex0 F r a0 w h1 hc) ?_)
    intro e a1 w1 hpc
    cases ex0 with
    | exit id => cases h2
    | ret => cases h2
    | pan q => cases h2
    | normal =>
      obtain ⟨rfl, F1, r1, hc1⟩ := hpc
      simp only at h2
      split at h2
      rotate_left
      · cases h2
      rename_i k hav2
      cases hl : (Sz.look st0.env 5).isNone && Nat.blt k st0.nx with
      | false =>
        simp only [hl, cond_false] at h2
        cases h2
      | true =>
        simp only [hl, cond_true] at h2
        obtain ⟨hl5, hl2⟩ := Bool.and_eq_true_iff.1 hl
        have hkn : k < st0.nx := Nat.le_of_ble_eq_true hl2
        obtain ⟨⟨ex, st⟩, h3, h4⟩ := Tree.run_bind_some h2
        obtain ⟨x2, hx2, hx2'⟩ := hc1.env 2 _ hav2
        have hx2' : x2 = .pointer (some ⟨(r1 k).b, (r1 k).o + 0, none⟩) := hx2'
        have hl5' : Sz.look st0.env 5 = none := Option.isNone_iff_eq_none.1 hl5
        refine wp_seq (wp_region (reg2d hx2 (by rw [hc1.size]; omega) fun a2 hd2 hs2 ht2 => ?_))
        have hc2 : Conc [⟨.fn (.func g) #[x2], #[]⟩] fn.ntmps w (OwnL (nthH H) r) F st0.nx r1 st0 F1 r1 a2 w1 := by
          refine ⟨by rw [hd2, hc1.defers], by rw [hs2, hc1.size], fun k av hk => ?_, hc1.inn, hc1.mem, fun _ _ => rfl, Nat.le_refl _⟩
          obtain ⟨v', g1, g2⟩ := hc1.env k av hk
          refine ⟨v', ?_, g2⟩
          rw [ht2 k (fun h => by subst h; rw [hl5'] at hk; cases hk)]
          exact g1
        have fin : ∀ (q : Part) (p : Value) (u : FrameMode) F3 r3 a3 w3, Conc [⟨.fn (.func g) #[x2], #[]⟩] fn.ntmps w (OwnL (nthH H) r) F st0.nx r1 st F3 r3 a3 w3 → q.rep F3 r3 p → (q.inn fun j => j < st.nx) →
            ((u = .returning ∧ p = .nilIface) ∨ u = .panicking [{ v := p, recovered := false }]) → (caughtT P T fuel fn gn gc H.length k q st).run = some (v, H') → Leaves P fn a3.tmps (Post F r H w v H') a3.defers u w3 := fun q p u F3 r3 a3 w3 hc3 hq hqi hu ho => by
          have hc4 : Conc [⟨.fn (.func g) #[x2], #[]⟩] fn.ntmps w (OwnL (nthH H) r) F H.length r st F3 r3 a3 w3 :=
            ⟨hc3.defers, hc3.size, hc3.env, hc3.inn, hc3.mem, fun j hj => by rw [hc3.par j (Nat.lt_of_lt_of_le hj hc1.mle), hc1.par j hj], Nat.le_trans hc1.mle hc3.mle⟩
          exact caught_leaves hT hm hgf hgb hgr hgn hgm hgc hk hc4 (by rw [hc3.par k hkn]; exact hx2') hq hqi hu ho
        refine wp_mono (code_wp hT hk hm (noL_ok _ _ _ _ _ _) (restC c) [] rfl false _ st ex F1 r1 a2 w1 h3 hc2) ?_
        intro e a3 w3 hpc
        cases ex with
        | exit id => cases h4
        | normal => obtain ⟨rfl, F3, r3, hc3⟩ := hpc; exact fin (.one (.v .nilIface)) .nilIface .returning F3 r3 a3 w3 hc3 rfl trivial (.inl ⟨rfl, rfl⟩) h4
        | ret => obtain ⟨rfl, F3, r3, hc3⟩ := hpc; exact fin (.one (.v .nilIface)) .nilIface .returning F3 r3 a3 w3 hc3 rfl trivial (.inl ⟨rfl, rfl⟩) h4
        | pan q => obtain ⟨F3, r3, p, hc3, g1, g2, rfl⟩ := hpc; exact fin q p _ F3 r3 a3 w3 hc3 g1 g2 (.inr rfl) h4
end
noncomputable def catchS (P : Program) (T : Tab) (fuel : Nat) (fn gn : Func) (c g : Code) : Summ := ⟨[], false, fun args H => catchE P T fuel fn gn c g args H, fun _ _ => true⟩
theorem catch_ok {K : Know} {P : Program} {T : Tab} (hT : TOk K P T) (hm : P.follows .mixedOrders = true)
    {g : FuncId} {gn : Func} {gc : Code} (hgf : P.funcs[g]? = some gn) (hgb : gn.body = some gc) (hgr : gn.results = #[]) (hgn : 5 ≤ gn.ntmps) (hgm : (gn.name == "runtime.NumGoroutine") = false)
    {i0 : Nat} {t1 t2 : TypeId} {p1 p2 : String} {e1 e2 : Array Edge} (hgc : gc = .seq (.region i0 #[recO t1 p1 e1, asgO t2 p2 e2] false) (tailC gc))
    (fuel : Nat) {f : FuncId} {fn : Func} {c : Code} (hf : P.funcs[f]? = some fn) (hn : (fn.name == "runtime.NumGoroutine") = false) (hb : fn.body = some c)
    {i2 : Nat} {t3 t4 : TypeId} {p3 p4 : String} {e3 e4 : Array Edge} (hfc : c = .seq (fstC c) (.seq (.region i2 #[mkfO g t3 p3 e3, dfrO t4 p4 e4] false) (restC c))) (hfn : 6 ≤ fn.ntmps) :
    SummOk K P f (catchS P T fuel fn gn c gc) :=
  .inr ⟨⟨fn, hf, hn, by rw [hb]; rfl⟩, fun args H H' v hg hck F r w us hk hpre ha hi =>
    calls_catch hT hm hgf hgb hgr hgn hgm hgc hf hb hfc hfn hg hk hpre ha hi⟩
end Go.Vy
