/-
  The verifier: a run whose way is told at every open test.
-/
import Derived.Test.YtfbldjaepenfpaaGreatDoorVyN
noncomputable section
namespace Go.Vy
open Go Go.RowKit Go.Sy Go.Sz
set_option linter.unusedVariables false
def runQ {α : Type} : Tree α → List Bool → Option (Go.Sz.Found α)
  | .ret a, _ => some ⟨[], [], [], a⟩
  | .fail, _ => none
  | .ite c t e, l => bif c then runQ t l else runQ e l
  | .sy c t e, true :: l => (runQ t l).map (.cond c)
  | .sy c t e, false :: l => (runQ e l).map (.cond !c)
  | .sy _ _ _, [] => none
  | .ob a b t, l => bif Nat.beq a.length b.length then (runQ t l).map (.same a b) else none
theorem runQ_run {α : Type} : ∀ {t : Tree α} {l : List Bool} {x : Go.Sz.Found α}, runQ t l = some x → x.as = x.bs → allTrue x.cs = true → t.run = some x.r
  | .ret _, _, _, h, _, _ => by simp only [runQ, Option.some.injEq] at h; rw [← h]; rfl
  | .fail, _, _, h, _, _ => by simp [runQ] at h
  | .ite c t e, l, x, h, hs, hc => by
    simp only [runQ] at h
    cases c
    · exact runQ_run (t := e) h hs hc
    · exact runQ_run (t := t) h hs hc
  | .sy c t e, true :: l, x, h, hs, hc => by
    simp only [runQ] at h
    obtain ⟨y, h1, rfl⟩ := Option.map_eq_some_iff.1 h
    simp only [Found.cond, allTrue, Bool.and_eq_true] at hc
    obtain ⟨rfl, hc⟩ := hc
    exact runQ_run (t := t) (x := y) h1 hs hc
  | .sy c t e, false :: l, x, h, hs, hc => by
    simp only [runQ] at h
    obtain ⟨y, h1, rfl⟩ := Option.map_eq_some_iff.1 h
    simp only [Found.cond, allTrue, Bool.and_eq_true, Bool.not_eq_true'] at hc
    obtain ⟨rfl, hc⟩ := hc
    exact runQ_run (t := e) (x := y) h1 hs hc
  | .sy _ _ _, [], x, h, _, _ => by simp [runQ] at h
  | .ob a b t, l, x, h, hs, hc => by
    simp only [runQ] at h
    cases hl : Nat.beq a.length b.length with
    | false => rw [hl] at h; cases h
    | true =>
      rw [hl] at h
      obtain ⟨y, h1, rfl⟩ := Option.map_eq_some_iff.1 h
      obtain ⟨e1, e2⟩ := append_same (Nat.eq_of_beq_eq_true hl) hs
      subst e1
      have := runQ_run (t := t) (x := y) h1 e2 hc
      show ifEq a a t.run none = _
      rw [ifEq_pos rfl]
      exact this
theorem run_ofQ {α : Type} {t : Tree α} (l : List Bool) {cs : List Bool} {r : α} (h : (runQ t l).map (fun x => (x.cs, x.r)) = some (cs, r)) (hs : (runQ t l).map (·.as) = (runQ t l).map (·.bs)) (hc : allTrue cs = true) : t.run = some r := by
  obtain ⟨x, h1, h2⟩ := Option.map_eq_some_iff.1 h
  simp only [Prod.mk.injEq] at h2
  obtain ⟨rfl, rfl⟩ := h2
  rw [h1] at hs
  exact runQ_run h1 (by simpa using hs) hc
end Go.Vy
namespace Go.Vy
open Go Go.RowKit Go.Sy Go.Sz
set_option linter.unusedVariables false
/-! ### Rows of a general contract where memory is handed over -/
inductive RL2 : List Ob → List Ob → Prop
  | nil : RL2 [] []
  | cons {a b : Ob} {l m : List Ob} (h : RL a b) (hf : ∀ d x y, a.foot d x y → b.foot d x y) (t : RL2 l m) : RL2 (a :: l) (b :: m)
theorem RL2.rls {l m : List Ob} (h : RL2 l m) : RLs l m := by
  induction h with
  | nil => exact .nil
  | cons h _ _ ih => exact .cons h ih
theorem RL2.back {l m : List Ob} (h : RL2 l m) : ∀ (j : Nat) (ob : Ob), nthH l j = some ob → ∃ ob2, nthH m j = some ob2 ∧ ∀ d x y, ob.foot d x y → ob2.foot d x y := by
  induction h with
  | nil => intro j ob h2; cases h2
  | cons h hf _ ih =>
    intro j ob h2
    cases j with
    | zero => injection h2 with h2; subst h2; exact ⟨_, rfl, hf⟩
    | succ j => exact ih j ob h2
theorem RL2.own {l m : List Ob} (h : RL2 l m) (r : Sz.Loc) : OwnL (nthH m) r = OwnL (nthH l) r := by
  funext b o
  refine propext ⟨fun ⟨j, ob, h1, h2⟩ => ?_, fun ⟨j, ob, h1, h2⟩ => ?_⟩
  · obtain ⟨x, e, q⟩ := h.rls.nth j ob h1
    exact ⟨j, x, e, q.foot _ _ _ h2⟩
  · obtain ⟨x, e, q⟩ := h.back j ob h1
    exact ⟨j, x, e, q _ _ _ h2⟩
theorem RL2.pre {l m : List Ob} (h : RL2 l m) {F : Frag} {r : Sz.Loc} {w : World} (hp : Pre F r l w) : Pre F r m w := by
  unfold Pre at *
  rw [h.own, h.rls.len]
  exact Mem.relabel hp h.rls.nth
theorem RL2.post {l m : List Ob} (h : RL2 l m) {F : Frag} {r : Sz.Loc} {w w' : World} {v : AV} {H' : List Ob} {e : Ending} (hp : Post F r m w v H' e w') : Post F r l w v H' e w' := by
  unfold Post at *
  rw [h.own, h.rls.len] at hp
  exact hp
structure RowH (s : Summ) (r : Row) (H0 : List Ob) : Prop where
  fw : RL2 r.hp H0
  run : ∃ v H', (s.g (r.as.map plA) H0).run = some (v, H') ∧ s.ck (r.as.map plA) H0 = true ∧ isPan v = none ∧ isPan r.v = none ∧ plA r.v = v ∧ RLs H' r.hp'
end Go.Vy
namespace Go.Vy
open Go Go.RowKit Go.Sy Go.Sz
set_option linter.unusedVariables false
/-! ### Runs of one element, and a law's call from marked arguments -/
def rp {α : Type} (n : Nat) (x : α) (l : List α) : List α := Nat.rec l (fun _ r => x :: r) n
def rpl {α : Type} (n : Nat) (x : List α) (l : List α) : List α := Nat.rec l (fun _ r => x ++ r) n
theorem avs_unpl {F : Frag} {r : Sz.Loc} : ∀ {l : List AV} {vs : List Value}, avsRep F r (l.map plA) vs → avsRep F r l vs
  | [], [], h => h
  | [], _ :: _, h => h.elim
  | _ :: _, [], h => h.elim
  | _ :: _, _ :: _, h => ⟨unplA h.1, avs_unpl h.2⟩
theorem law_data3 {H : Type} {enc : TypeId × Value → H} {P : Program} {K : Know} (hm : P.follows .mixedOrders = true) {f : FuncId} {fn : Func} {c : Code} (hf : P.funcs[f]? = some fn) (hb : fn.body = some c) (fuel n : Nat) {rc : List (Nat × Tys)} {sh : List PSh} (hsh : pshAll P (n + 1) fn.params.toList = some sh)
    (hev : ∀ x : denS sh, okS sh x → ∃ as : List AV, as.map plA = avS sh x ∧ ∃ T, TOk K P T ∧ ∃ L, LOk P T fn.ntmps 0 fuel L c ∧ ∃ av, plA av = AV.b true ∧ isPan av = none ∧ (evalFnL P T fuel L fn c rc as []).run = some (av, []))
    (W : World) (hk : K.ok (memF W)) (base : Nat) (args : Array Value) (ds : List (DataW H)) (before : List MemPlace) (hval : ∀ (j : Nat) t v, fn.params[j]? = some t → args[j]? = some v → Value.okWide P W .any base t v)
    (h : DataW.TrodAll enc P W 0 (fun _ => true) true fn.params.toList args.toList ds before) : Calls P f args W fun e W' => e = .returned (.bool true) ∧ Below W.heap.size W W' := by
  obtain ⟨x, hx, hok⟩ := data_all _ _ _ _ sh hsh (fun j t v ht hv => hval j t v (by rw [← Array.getElem?_toList]; exact ht) (by rw [← Array.getElem?_toList]; exact hv)) h
  obtain ⟨as, has, T, hT, L, hL, av, hav, hpan, h1⟩ := hev x hok
  have hempty : ∀ b o, ¬ OwnL (nthH []) (fun _ => ⟨0, 0, undef⟩) b o := fun b o ⟨j, ob, hj, _⟩ => by simp [nthH, nth_eq] at hj
  have hpre : Pre (memF W) (fun _ => ⟨0, 0, undef⟩) [] W := by
    refine ⟨fun j ob hj => ?_, fun j ob hj => ?_, fun j ob hj => ?_, fun j j' ob ob' b o hj => ?_, fun b o v hv => hv, fun b o v j ob _ hj => ?_, Fr.refl _ _, fun j ob b o hj => ?_, Frag.le_refl _, fun b o v hv => .inl hv⟩ <;> simp [nthH, nth_eq] at hj
  have hrep : avsRep (memF W) (fun _ => ⟨0, 0, undef⟩) as args.toList := avs_unpl (by rw [has]; exact hx _)
  have hinn : ∀ a ∈ as, a.inn fun j => j < ([] : List Ob).length := fun a ha => uninA (avS_inn _ _ _ _ (by rw [← has]; exact List.mem_map.2 ⟨a, ha, rfl⟩))
  refine (calls_of_evalL (H := []) hT hm hf hb hL h1 hk hpre hrep hinn).mono ?_
  rintro e W' ⟨u, F', r', hend, q1, q2, _, _, _⟩
  obtain rfl := hend.ret hpan
  have q3 := plA_rep q2
  rw [hav] at q3
  simp only [AV.rep, Part.rep, Cell.rep] at q3
  subst q3
  exact ⟨rfl, q1.frame.below hempty⟩
end Go.Vy
