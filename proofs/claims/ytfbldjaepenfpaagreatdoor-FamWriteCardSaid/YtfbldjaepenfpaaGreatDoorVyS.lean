/-
  The verifier: what is known of memory that nobody here writes (nothing); contracts of library functions that the model answers at once.
-/
import Derived.Test.YtfbldjaepenfpaaGreatDoorSzAJ
noncomputable section
namespace Go.Vy
open Go Go.Sy Go.Sz
set_option linter.unusedVariables false
set_option linter.unusedSimpArgs false
abbrev Kn : Know := Know.none
def cloneX : Summ := ⟨[], false, fun args H => match args, H with
  | [.p (.one (.clo g [.h 0]))], [.cm es] => bif isFn g || ifcA g then .fail else .ret (.p (.one (.clo g [.h 1])), [.cm es, .cm es])
  | _, _ => .fail, fun _ _ => true⟩
theorem call_ext {P : Program} {f : FuncId} {fn : Func} (hf : P.funcs[f]? = some fn) (hn : (fn.name == "runtime.NumGoroutine") = false) (hb : fn.body.isNone = true) (h1 : Extern.findNext fn = none) {e : Array Value → Sem Value} (h2 : Extern.find fn = some e) (args : Array Value) (w : World) :
    (callFunc f args).run P w = (do pure (Next.value (← e args)) : Sem Next).run P w := by
  have h3 : ¬ fn.name = "runtime.NumGoroutine" := by simpa using hn
  have h4 : fn.body = none := by
    cases hb' : fn.body with
    | none => rfl
    | some c => rw [hb'] at hb; cases hb
  simp [callFunc, hf, h3, h4, h1, h2]
theorem clone_run {P : Program} {w : World} {b : Nat} {es : Array MapEntry} {clock : Nat} (h : w.heap[b]? = some (.map es clock)) (t : TypeId) :
    (do pure (Next.value (← Extern.MapsClone.clone #[.iface t (.map (some b))])) : Sem Next).run P w = .ok (.value (.iface t (.map (some w.heap.size)))) (w.alloc (.map es clock)) := by
  have h1 : Extern.MapsClone.clone #[.iface t (.map (some b))] = (do
    let .map entries clock ← getObj b | stuck "maps.clone: a map expected"
    pure (.iface t (.map (some (← newObj (.map entries clock)))))) := rfl
  rw [h1, Sem.run_bind, Sem.run_bind, Go.MapKept.run_getObj_map h]
  rfl
theorem clone_okX {P : Program} {f : FuncId} {fn : Func} (hf : P.funcs[f]? = some fn) (hn : (fn.name == "runtime.NumGoroutine") = false) (hb : fn.body.isNone = true) (h1 : Extern.findNext fn = none) (h2 : Extern.find fn = some Extern.MapsClone.clone) : SummOk Kn P f cloneX := by
  refine .inl fun args H H' v hg hck F r w us hk hpre ha hi => ?_
  simp only [cloneX] at hg
  split at hg
  · rename_i g es
    clear hck
    generalize hfg : isFn g = b1 at hg
    generalize hag : ifcA g = b2 at hg
    cases b1 with
    | true => cases hg
    | false =>
      cases b2 with
      | true => cases hg
      | false =>
        simp only [Bool.or_false, cond_false, Tree.run, Option.some.injEq, Prod.mk.injEq] at hg
        obtain ⟨rfl, rfl⟩ := hg
        match us, ha with
        | [u], ha =>
          obtain ⟨⟨vs, hv1, hv2⟩, _⟩ := ha
          match vs, hv1 with
          | [m], hv1 =>
            rw [cloV_ifc hfg, hag] at hv2
            simp only [cond_false, List.headD_cons] at hv2
            obtain ⟨hm1, hm2⟩ := hv1.1
            obtain ⟨h0, es', clock, e1, e2, e3, e4⟩ := hpre.obs 0 (.cm es) rfl
            have hin := hpre.scp 0 (.cm es) rfl
            have hnew := hpre.newCm (nx := 1) (by simp) hin e2 e3 e4
            refine ⟨.iface (ifcT g) (.map (some w.heap.size)), w.alloc (.map es' clock), ?_, ⟨_, F, locPut r 1 ⟨w.heap.size, 0, .map (some w.heap.size)⟩, EndIs.mk rfl, ?_, ⟨[.map (some w.heap.size)], ⟨⟨by rw [locPut_self], rfl⟩, trivial⟩, ?_⟩, ?_, fun j hj => ?_, by simp⟩, rfl⟩
            · rw [call_ext hf hn hb h1 h2, hv2]
              generalize ifcT g = gt
              rw [hm1, h0]
              exact clone_run e1 gt
            · have heq : (updH [(1, Ob.cm es)] (nthH [Ob.cm es])) = nthH [Ob.cm es, Ob.cm es] := by
                funext j
                rw [updH_cons]
                match j with
                | 0 => rfl
                | 1 => rfl
                | j + 2 => rfl
              rw [← heq]
              have hd : (fun j => j < ([Ob.cm es, Ob.cm es] : List Ob).length) = (fun j => j < ([Ob.cm es] : List Ob).length ∨ j = 1) := by
                funext j
                simp only [List.length_cons, List.length_nil, eq_iff_iff]
                omega
              rw [hd]
              exact hnew
            · rw [cloV_ifc hfg, hag]; rfl
            · intro c hc
              rcases List.mem_singleton.1 hc with rfl
              show (1 : Nat) < 2
              decide
            · have : j = 0 := by simp at hj; omega
              subst this
              exact locPut_agree (D := fun j => j < 1) r (n := 1) (by simp) _ 0 (by simp)
  · cases hg
def add64X : Summ := ⟨[], false, fun args H => match args, H with
  | [.p (.one (.w .u64 x)), .p (.one (.w .u64 y)), .p (.one (.w .u64 c))], [] => bif c == 0#64 then .ret (.t [.one (.w .u64 (x + y)), .one (.w .u64 (BitVec.ofNat 64 ((x.toNat + y.toNat) / 18446744073709551616)))], []) else .fail
  | _, _ => .fail, fun _ _ => true⟩
def add64F : Array Value → Sem Value := fun args => do
    let (x, y, c) ← Extern.MathBitsCarry.three "Add64" args
    pure (Extern.MathBitsCarry.pair ((x + y + c) % Extern.MathBitsCarry.m64) ((x + y + c) / Extern.MathBitsCarry.m64))
theorem add64_okX {P : Program} {f : FuncId} {fn : Func} (hf : P.funcs[f]? = some fn) (hn : (fn.name == "runtime.NumGoroutine") = false) (hb : fn.body.isNone = true) (h1 : Extern.findNext fn = none) (h2 : Extern.find fn = some add64F) : SummOk Kn P f add64X := by
  refine .inl fun args H H' v hg hck F r w us hk hpre ha hi => ?_
  simp only [add64X] at hg
  split at hg
  · rename_i x y c
    clear hck
    cases hc : (c == 0#64) with
    | false => rw [hc] at hg; cases hg
    | true =>
      rw [hc] at hg
      simp only [cond_true, Tree.run, Option.some.injEq, Prod.mk.injEq] at hg
      obtain ⟨rfl, rfl⟩ := hg
      have hc0 : c = 0#64 := eq_of_beq (α := BitVec 64) hc
      subst hc0
      match us, ha with
      | [u1, u2, u3], ha =>
        obtain ⟨a1, a2, a3, _⟩ := ha
        have a1 : u1 = .int .u64 x.toNat := a1
        have a2 : u2 = .int .u64 y.toNat := a2
        have a3 : u3 = .int .u64 0 := a3
        subst a1 a2 a3
        have e1 : ((x + y).toNat : Int) = (((x.toNat + y.toNat + 0) % Extern.MathBitsCarry.m64 : Nat) : Int) := by
          rw [BitVec.toNat_add]; rfl
        have e2 : ((BitVec.ofNat 64 ((x.toNat + y.toNat) / 18446744073709551616)).toNat : Int) = (((x.toNat + y.toNat + 0) / Extern.MathBitsCarry.m64 : Nat) : Int) := by
          rw [BitVec.toNat_ofNat]
          have hx : x.toNat < 2 ^ 64 := x.isLt
          have hy : y.toNat < 2 ^ 64 := y.isLt
          have : (x.toNat + y.toNat) / 18446744073709551616 < 2 ^ 64 := by omega
          exact congrArg (fun n : Nat => (n : Int)) (Nat.mod_eq_of_lt this)
        refine ⟨.tuple #[.int .u64 (x + y).toNat, .int .u64 (BitVec.ofNat 64 ((x.toNat + y.toNat) / 18446744073709551616)).toNat], w, ?_, ⟨_, F, r, EndIs.mk rfl, hpre, ⟨[_, _], ⟨rfl, rfl, trivial⟩, rfl⟩, fun q hq => ?_, fun _ _ => rfl, Nat.le_refl _⟩, rfl⟩
        · rw [call_ext hf hn hb h1 h2, e1, e2]
          rfl
        · simp only [List.mem_cons, List.not_mem_nil, or_false] at hq
          rcases hq with rfl | rfl <;> trivial
  · cases hg
end Go.Vy
