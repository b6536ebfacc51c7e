/-
  A symbolic machine for one call, with rows of any length: contracts, what is handed to a function.
  A symbolic machine for one call, with rows of any length: a call, and what comes back.
-/
import Derived.Test.YtfbldjaepenfpaaGreatDoorSzT
noncomputable section
namespace Go.Sz
open Go Go.RowKit Go.Sy
set_option linter.unusedVariables false
set_option linter.unusedSimpArgs false
set_option linter.constructorNameAsVariable false
/-! ### Contracts -/
inductive Mode where
  | own (n : Nat)
  | any
  | dp (ts : Tys)
  | dq (ts : Tys)
structure Summ where
  modes : List Mode
  esc : Bool
  g : List AV → List Ob → Tree (AV × List Ob)
  ck : List AV → List Ob → Bool
def nthH (l : List Ob) : Hf := fun j => nth l j
def OwnL (H : Hf) (r : Loc) (b o : Nat) : Prop := ∃ j ob, H j = some ob ∧ ob.foot (r j) b o
def Pre (F : Frag) (r : Loc) (H : List Ob) (w : World) : Prop := Mem w (OwnL (nthH H) r) F (fun j => j < H.length) (nthH H) F r w
def panA (x : Part) : AV := .t [.many [], .many [], .many [], x]
def isNilP : Part → Bool
  | .many [] => true
  | _ => false
theorem isNilP_eq {x : Part} (h : isNilP x = true) : x = .many [] := by
  unfold isNilP at h
  split at h
  · rfl
  · cases h
def isPan : AV → Option Part
  | .t [a, b, c, x] => bif isNilP a && (isNilP b && isNilP c) then some x else none
  | _ => none
theorem isPan_panA (x : Part) : isPan (panA x) = some x := rfl
theorem isPan_eq {v : AV} {x : Part} (h : isPan v = some x) : v = panA x := by
  unfold isPan at h
  split at h
  · rename_i a b c y
    cases hb : (isNilP a && (isNilP b && isNilP c)) with
    | false => rw [hb] at h; cases h
    | true =>
      rw [hb] at h
      simp only [cond_true, Option.some.injEq] at h; subst h
      simp only [Bool.and_eq_true] at hb
      rw [isNilP_eq hb.1, isNilP_eq hb.2.1, isNilP_eq hb.2.2]; rfl
  · cases h
def panV (p : Value) : Value := .tuple #[.agg #[], .agg #[], .agg #[], p]
theorem panA_rep {F : Frag} {r : Loc} {x : Part} {u : Value} (h : (panA x).rep F r u) : ∃ p, u = panV p ∧ x.rep F r p := by
  obtain ⟨vs, h1, h2⟩ := h
  match vs, h1 with
  | [a, b, c, p], ⟨⟨la, ha, ea⟩, ⟨lb, hb, eb⟩, ⟨lc, hc, ec⟩, hp, _⟩ =>
    cases la with
    | cons _ _ => exact ha.elim
    | nil =>
    cases lb with
    | cons _ _ => exact hb.elim
    | nil =>
    cases lc with
    | cons _ _ => exact hc.elim
    | nil =>
    subst ea eb ec
    exact ⟨p, h2, hp⟩
theorem panA_rep' {F : Frag} {r : Loc} {x : Part} {p : Value} (h : x.rep F r p) : (panA x).rep F r (panV p) :=
  ⟨[.agg #[], .agg #[], .agg #[], p], ⟨⟨[], trivial, rfl⟩, ⟨[], trivial, rfl⟩, ⟨[], trivial, rfl⟩, h, trivial⟩, rfl⟩
theorem panA_inn {D : Nat → Prop} {x : Part} : (panA x).inn D ↔ x.inn D := by
  constructor
  · intro h; exact h x (by simp)
  · intro h y hy
    simp only [List.mem_cons, List.not_mem_nil, or_false] at hy
    rcases hy with rfl | rfl | rfl | rfl
    · intro c hc; cases hc
    · intro c hc; cases hc
    · intro c hc; cases hc
    · exact h
def EndIs (v : AV) (u : Value) (e : Ending) : Prop := (isPan v = none ∧ e = .returned u) ∨ ∃ x p, isPan v = some x ∧ u = panV p ∧ e = .panicked [{ v := p, recovered := false }]
theorem EndIs.ret {v : AV} {u : Value} {e : Ending} (h : EndIs v u e) (hn : isPan v = none) : e = .returned u := by
  rcases h with ⟨_, h⟩ | ⟨x, p, hx, _, _⟩
  · exact h
  · rw [hn] at hx; cases hx
theorem EndIs.mk {v : AV} {u : Value} (hn : isPan v = none) : EndIs v u (.returned u) := .inl ⟨hn, rfl⟩
def Post (F : Frag) (r : Loc) (H : List Ob) (w : World) (v : AV) (H' : List Ob) (e : Ending) (w' : World) : Prop :=
  ∃ u F' r', EndIs v u e ∧ Mem w (OwnL (nthH H) r) F (fun j => j < H'.length) (nthH H') F' r' w' ∧ v.rep F' r' u ∧ v.inn (fun j => j < H'.length) ∧ (∀ j, j < H.length → r' j = r j) ∧ H.length ≤ H'.length
structure Know where
  ok : Frag → Prop
  mono : ∀ F F' : Frag, F.le F' → ok F → ok F'
def Know.none : Know := ⟨fun _ => True, fun _ _ _ _ => trivial⟩
def Ext (K : Know) (P : Program) (f : FuncId) (s : Summ) : Prop := ∀ (args : List AV) (H H' : List Ob) (v : AV), (s.g args H).run = some (v, H') → s.ck args H = true →
  ∀ (F : Frag) (r : Loc) (w : World) (us : List Value), K.ok F → Pre F r H w → avsRep F r args us → (∀ a ∈ args, a.inn fun j => j < H.length) →
    ∃ u w', (callFunc f us.toArray).run P w = .ok (.value u) w' ∧ Post F r H w v H' (.returned u) w' ∧ isPan v = none
def SummOk (K : Know) (P : Program) (f : FuncId) (s : Summ) : Prop := Ext K P f s ∨
  (∃ fn, P.funcs[f]? = some fn ∧ (fn.name == "runtime.NumGoroutine") = false ∧ fn.body.isNone = false) ∧
  ∀ (args : List AV) (H H' : List Ob) (v : AV), (s.g args H).run = some (v, H') → s.ck args H = true →
    ∀ (F : Frag) (r : Loc) (w : World) (us : List Value), K.ok F → Pre F r H w → avsRep F r args us → (∀ a ∈ args, a.inn fun j => j < H.length) →
      Calls P f us.toArray w (Post F r H w v H')
structure Tab where
  f : FuncId → Option Summ
  lit : Bool
  cl : Bool := false
instance : CoeFun Tab (fun _ => FuncId → Option Summ) := ⟨Tab.f⟩
def TOk (K : Know) (P : Program) (T : Tab) : Prop := ∀ f s, T f = some s → SummOk K P f s
/-! ### What is handed over -/
structure Sub where
  j : Nat
  rg : Option (Nat × Nat)
def findP : List Sub → Nat → Nat → Nat → Option (Nat × Nat)
  | [], _, _, _ => none
  | ⟨i, some (off, n)⟩ :: l, j, o, k => bif Nat.beq i j && (Nat.ble off o && Nat.ble o (off + n)) then some (k, o - off) else findP l j o (k + 1)
  | ⟨_, none⟩ :: l, j, o, k => findP l j o (k + 1)
def findH : List Sub → Nat → Nat → Option Nat
  | [], _, _ => none
  | ⟨i, none⟩ :: l, j, k => bif Nat.beq i j then some k else findH l j (k + 1)
  | ⟨_, some _⟩ :: l, j, k => findH l j (k + 1)
def renS (S : List Sub) : Ren := ⟨fun j o => findP S j o 0, fun j => findH S j 0⟩
def rcOf (S : List Sub) (r : Loc) : Loc := fun k => match S[k]? with
  | some ⟨j, some (off, _)⟩ => ⟨(r j).b, (r j).o + off, undef⟩
  | some ⟨j, none⟩ => r j
  | none => ⟨0, 0, undef⟩
theorem findP_spec : ∀ {S : List Sub} {j o k k' o' : Nat}, findP S j o k = some (k', o') → ∃ off n, k ≤ k' ∧ S[k' - k]? = some ⟨j, some (off, n)⟩ ∧ off ≤ o ∧ o' = o - off
  | [], _, _, _, _, _, h => by cases h
  | ⟨i, some (off, n)⟩ :: l, j, o, k, k', o', h => by
    simp only [findP] at h
    cases hb : (Nat.beq i j && (Nat.ble off o && Nat.ble o (off + n))) with
    | true =>
      rw [hb] at h
      simp only [cond_true, Option.some.injEq, Prod.mk.injEq] at h
      obtain ⟨rfl, rfl⟩ := h
      simp only [Bool.and_eq_true] at hb
      have := Nat.eq_of_beq_eq_true hb.1
      subst this
      exact ⟨off, n, Nat.le_refl _, by simp, Nat.le_of_ble_eq_true hb.2.1, rfl⟩
    | false =>
      rw [hb] at h
      simp only [cond_false] at h
      obtain ⟨off', n', h1, h2, h3⟩ := findP_spec h
      exact ⟨off', n', by omega, by rw [show k' - k = (k' - (k + 1)) + 1 by omega, List.getElem?_cons_succ]; exact h2, h3⟩
  | ⟨_, none⟩ :: l, j, o, k, k', o', h => by
    simp only [findP] at h
    obtain ⟨off', n', h1, h2, h3⟩ := findP_spec h
    exact ⟨off', n', by omega, by rw [show k' - k = (k' - (k + 1)) + 1 by omega, List.getElem?_cons_succ]; exact h2, h3⟩
theorem findH_spec : ∀ {S : List Sub} {j k k' : Nat}, findH S j k = some k' → k ≤ k' ∧ S[k' - k]? = some ⟨j, none⟩
  | [], _, _, _, h => by cases h
  | ⟨i, none⟩ :: l, j, k, k', h => by
    simp only [findH] at h
    cases hb : Nat.beq i j with
    | true =>
      rw [hb] at h
      simp only [cond_true, Option.some.injEq] at h
      subst h
      have := Nat.eq_of_beq_eq_true hb
      subst this
      exact ⟨Nat.le_refl _, by simp⟩
    | false =>
      rw [hb] at h
      simp only [cond_false] at h
      obtain ⟨h1, h2⟩ := findH_spec h
      exact ⟨by omega, by rw [show k' - k = (k' - (k + 1)) + 1 by omega, List.getElem?_cons_succ]; exact h2⟩
  | ⟨_, some _⟩ :: l, j, k, k', h => by
    simp only [findH] at h
    obtain ⟨h1, h2⟩ := findH_spec h
    exact ⟨by omega, by rw [show k' - k = (k' - (k + 1)) + 1 by omega, List.getElem?_cons_succ]; exact h2⟩
theorem renS_ok (S : List Sub) (r : Loc) : RenOk (renS S) r (rcOf S r) (fun k => k < S.length) := by
  refine ⟨fun j o k o' h => ?_, fun j k h => ?_⟩
  · obtain ⟨off, n, _, h2, h3, rfl⟩ := findP_spec h
    rw [Nat.sub_zero] at h2
    exact ⟨(List.getElem?_eq_some_iff.1 h2).1, by simp only [rcOf, h2], by simp only [rcOf, h2]; omega⟩
  · obtain ⟨_, h2⟩ := findH_spec h
    rw [Nat.sub_zero] at h2
    exact ⟨(List.getElem?_eq_some_iff.1 h2).1, by simp only [rcOf, h2]⟩
def hasJ (j : Nat) : List Sub → Bool
  | [] => false
  | s :: l => bif Nat.beq s.j j then true else hasJ j l
def nodupJ : List Sub → Bool
  | [] => true
  | s :: l => !hasJ s.j l && nodupJ l
theorem hasJ_spec {j : Nat} : ∀ {S : List Sub}, hasJ j S = false → ∀ s ∈ S, s.j ≠ j
  | [], _, s, hs => by cases hs
  | x :: l, h, s, hs => by
    simp only [hasJ] at h
    cases hb : Nat.beq x.j j with
    | true => rw [hb] at h; cases h
    | false =>
      rw [hb] at h
      rcases List.mem_cons.1 hs with rfl | hs
      · intro e; rw [e] at hb; simp at hb
      · exact hasJ_spec h s hs
theorem nodupJ_spec : ∀ {S : List Sub}, nodupJ S = true → ∀ (k k' : Nat) (s s' : Sub), S[k]? = some s → S[k']? = some s' → s.j = s'.j → k = k'
  | [], _, k, _, s, _, h, _, _ => by simp at h
  | x :: l, h, k, k', s, s', hk, hk', e => by
    simp only [nodupJ, Bool.and_eq_true, Bool.not_eq_true'] at h
    cases k with
    | zero =>
      cases k' with
      | zero => rfl
      | succ k' =>
        simp at hk hk'; subst hk
        exact absurd e.symm (hasJ_spec h.1 s' (List.mem_of_getElem? hk'))
    | succ k =>
      cases k' with
      | zero =>
        simp at hk hk'; subst hk'
        exact absurd e (hasJ_spec h.1 s (List.mem_of_getElem? hk))
      | succ k' =>
        rw [nodupJ_spec h.2 k k' s s' (by simpa using hk) (by simpa using hk') e]
def refsK : Cap → List (Nat × Bool)
  | .p j _ => [(j, true)]
  | .h j => [(j, false)]
  | _ => []
def refsKs : List Cap → List (Nat × Bool)
  | [] => []
  | c :: l => refsK c ++ refsKs l
def refsC : Cell → List (Nat × Bool)
  | .p j _ => [(j, true)]
  | .h j => [(j, false)]
  | .e j _ _ _ _ _ => [(j, true)]
  | .er j _ _ _ => [(j, false)]
  | .hs j _ _ _ _ => [(j, false)]
  | .s j _ _ _ _ => [(j, true)]
  | .clo _ caps => refsKs caps
  | _ => []
def refsL : List Cell → List (Nat × Bool)
  | [] => []
  | c :: l => refsC c ++ refsL l
def refsP : Part → List (Nat × Bool)
  | .one c => refsC c
  | .many l => refsL l
def refsPs : List Part → List (Nat × Bool)
  | [] => []
  | c :: l => refsP c ++ refsPs l
def refsA : AV → List (Nat × Bool)
  | .p x => refsP x
  | .t l => refsPs l
def addRefs (H : Hf) : List (Nat × Bool) → List Sub → List Sub
  | [], S => S
  | (j, b) :: l, S => bif hasJ j S then addRefs H l S else bif b then (match H j with
      | some (.lit cs) => addRefs H l (S ++ [⟨j, some (0, cs.length)⟩])
      | _ => addRefs H l S)
    else addRefs H l (S ++ [⟨j, none⟩])
def subs0 (H : Hf) : List Mode → List AV → List Sub → List Sub
  | _, [], S => S
  | [], a :: as, S => subs0 H [] as (addRefs H (refsA a) S)
  | .own n :: ms, a :: as, S => match a with
    | .p (.one (.p j off)) => subs0 H ms as (bif hasJ j S then S else S ++ [⟨j, some (off, n)⟩])
    | _ => subs0 H ms as S
  | .any :: ms, a :: as, S => subs0 H ms as (addRefs H (refsA a) S)
  | _ :: ms, _ :: as, S => subs0 H ms as S
def cmCells : List (Value × Part) → List Cell
  | [] => []
  | x :: l => x.2.cells ++ cmCells l
def cellsOfSub (H : Hf) (s : Sub) : List Cell := match s.rg, H s.j with
  | some (off, n), some (.lit l) => (l.drop off).take n
  | none, some (.lr _ _ l) => l
  | none, some (.cm m) => cmCells m
  | _, _ => []
def closeS (H : Hf) : Nat → Nat → List Sub → List Sub
  | 0, _, S => S
  | fuel + 1, i, S => match nth S i with
    | none => S
    | some s => closeS H fuel (i + 1) (addRefs H (refsL (cellsOfSub H s)) S)
def subHeap (H : Hf) (σ : Ren) : List Sub → Option (List Ob)
  | [] => some []
  | s :: l => match s.rg, H s.j, subHeap H σ l with
    | some (off, n), some (.lit cs), some r => match takeX n (cs.drop off) with
      | some a => match renL σ a with
        | some b => some (.lit b :: r)
        | none => none
      | none => none
    | none, some ob, some r => bif isLit ob then none else match renOb σ ob with
      | some ob1 => some (ob1 :: r)
      | none => none
    | _, _, _ => none
theorem takeX_le {α : Type} {n off : Nat} {l a : List α} (h : takeX n (l.drop off) = some a) : a = (l.drop off).take n ∧ a.length = n ∧ (n = 0 ∨ off + n ≤ l.length) := by
  obtain ⟨h1, h2⟩ := takeX_spec _ _ _ h
  refine ⟨h1, h2, ?_⟩
  have := congrArg List.length h1
  rw [List.length_take, List.length_drop] at this
  omega
theorem subHeap_spec {H : Hf} {σ : Ren} : ∀ {S : List Sub} {hs : List Ob}, subHeap H σ S = some hs → hs.length = S.length ∧ ∀ (k : Nat) (s : Sub), S[k]? = some s →
    (∃ off n cs a b, s.rg = some (off, n) ∧ H s.j = some (.lit cs) ∧ a = (cs.drop off).take n ∧ a.length = n ∧ (n = 0 ∨ off + n ≤ cs.length) ∧ renL σ a = some b ∧ hs[k]? = some (.lit b)) ∨ (∃ ob ob1, s.rg = none ∧ H s.j = some ob ∧ isLit ob = false ∧ renOb σ ob = some ob1 ∧ hs[k]? = some ob1)
  | [], hs, h => by
    simp only [subHeap, Option.some.injEq] at h; subst h
    exact ⟨rfl, fun k s hk => by simp at hk⟩
  | x :: S, hs, h => by
    simp only [subHeap] at h
    split at h
    · rename_i off n cs r' hrg hj hr
      split at h
      · rename_i a ha
        split at h
        · rename_i b hb
          injection h with h; subst h
          obtain ⟨g1, g2⟩ := subHeap_spec hr
          obtain ⟨t1, t2, t3⟩ := takeX_le ha
          refine ⟨by simp [g1], fun k s hk => ?_⟩
          cases k with
          | zero => simp at hk; subst hk; exact .inl ⟨off, n, cs, a, b, hrg, hj, t1, t2, t3, hb, rfl⟩
          | succ k => simpa using g2 k s (by simpa using hk)
        · cases h
      · cases h
    · rename_i ob r' hrg hj hr
      cases hl : isLit ob with
      | true => rw [hl] at h; cases h
      | false =>
        rw [hl] at h
        simp only [cond_false] at h
        split at h
        · rename_i ob1 ho1
          injection h with h; subst h
          obtain ⟨g1, g2⟩ := subHeap_spec hr
          refine ⟨by simp [g1], fun k s hk => ?_⟩
          cases k with
          | zero => simp at hk; subst hk; exact .inr ⟨ob, ob1, hrg, hj, hl, ho1, rfl⟩
          | succ k => simpa using g2 k s (by simpa using hk)
        · cases h
    · cases h
def passArgs (H : Hf) (σ : Ren) : List Mode → List AV → Tree (List AV × List Nat)
  | _, [] => .ret ([], [])
  | [], a :: as => match renA σ a with
    | some a' => (passArgs H σ [] as).bind fun q => .ret (a' :: q.1, q.2)
    | none => .fail
  | .dp ts :: ms, a :: as => match a with
    | .p (.one c) => (viewT H ts c).bind fun l => (passArgs H σ ms as).bind fun q => .ret (AV.c (.d ts l.1) :: q.1, l.2 ++ q.2)
    | _ => .fail
  | .dq ts :: ms, a :: as => match a with
    | .p (.one (.p j off)) => match H j with
      | some (.lit l) => match takeX ts.len (l.drop off) with
        | some cs => (viewDs H ts cs).bind fun x => (passArgs H σ ms as).bind fun q => .ret (AV.c (.q ts x.1) :: q.1, j :: (x.2 ++ q.2))
        | none => .fail
      | _ => .fail
    | .p (.one (.q ts' x)) => match toD ts x with
      | some y => (passArgs H σ ms as).bind fun q => .ret (AV.c (.q ts y) :: q.1, q.2)
      | none => .fail
    | _ => .fail
  | _ :: ms, a :: as => match renA σ a with
    | some a' => (passArgs H σ ms as).bind fun q => .ret (a' :: q.1, q.2)
    | none => .fail
section
variable {F : Frag} {r : Loc} {D : Nat → Prop} {w : World} {H : Hf}
theorem toD_rep {ts ts' : Tys} {x : ts.den} {y : ts'.den} (h : toD ts' x = some y) {u : Value} (hu : (Cell.q ts x).rep F r u) : (Cell.q ts' y).rep F r u := by
  unfold toD at h
  split at h
  · rename_i e
    have := Tys.eqb_eq e
    subst this
    injection h with h; subst h; exact hu
  · cases h
theorem passArgs_run (hs : Sees F r D H w) {σ : Ren} {rc : Loc} {D' : Nat → Prop} (hσ : RenOk σ r rc D') : ∀ {ms : List Mode} {as as' : List AV} {js : List Nat} {us : List Value}, (passArgs H σ ms as).run = some (as', js) → avsRep F r as us →
    ∀ {Q : Nat → Nat → Prop}, (∀ b o, Lent H r js b o → Q b o) → avsRep (Fplus F w Q) rc as' us ∧ (∀ a ∈ as', a.inn D') ∧ ∀ j ∈ js, ∃ ob, H j = some ob
  | ms, [], as', js, us, h, hu, Q, hQ => by
    have h' : some (([] : List AV), ([] : List Nat)) = some (as', js) := by cases ms with
      | nil => exact h
      | cons m ms => cases m <;> exact h
    injection h' with h'
    injection h' with h1 h2
    subst h1 h2
    cases us with
    | nil => exact ⟨trivial, fun a ha => (by cases ha), fun j hj => by cases hj⟩
    | cons a b => exact hu.elim
  | ms, a :: as, as', js, [], h, hu, Q, hQ => hu.elim
  | ms, a :: as, as', js, u :: us, h, hu, Q, hQ => by
    have hle := Fplus_le F w Q
    have plain : ∀ {ms' : List Mode}, (match renA σ a with
        | some a' => (passArgs H σ ms' as).bind fun q => Tree.ret (a' :: q.1, q.2)
        | none => .fail).run = some (as', js) → avsRep (Fplus F w Q) rc as' (u :: us) ∧ (∀ a ∈ as', a.inn D') ∧ ∀ j ∈ js, ∃ ob, H j = some ob := by
      intro ms' h
      split at h
      · rename_i a' ha'
        obtain ⟨⟨q1, q2⟩, hq, h⟩ := Tree.run_bind_some h
        simp only [Tree.run, Option.some.injEq, Prod.mk.injEq] at h
        obtain ⟨rfl, rfl⟩ := h
        obtain ⟨g1, g2, g3⟩ := passArgs_run hs hσ hq hu.2 hQ
        obtain ⟨k1, k2⟩ := renA_rep hσ (F := F) ha'
        refine ⟨⟨AV.rep_to hle (fun _ _ => rfl) k1 (k2 u hu.1), g1⟩, fun x hx => ?_, g3⟩
        rcases List.mem_cons.1 hx with rfl | hx
        · exact k1
        · exact g2 x hx
      · cases h
    cases ms with
    | nil => exact plain h
    | cons m ms =>
      cases m with
      | own n => exact plain h
      | any => exact plain h
      | dp ts =>
        simp only [passArgs] at h
        split at h
        · rename_i c
          obtain ⟨⟨l, jl⟩, hl, h⟩ := Tree.run_bind_some h
          obtain ⟨⟨q1, q2⟩, hq, h⟩ := Tree.run_bind_some h
          simp only [Tree.run, Option.some.injEq, Prod.mk.injEq] at h
          obtain ⟨rfl, rfl⟩ := h
          obtain ⟨k1, k2⟩ := viewT_run hs hl hu.1 (Q := Q) (fun b o hl => hQ b o (hl.mono fun j hj => List.mem_append_left _ hj))
          obtain ⟨g1, g2, g3⟩ := passArgs_run hs hσ hq hu.2 (Q := Q) (fun b o hl => hQ b o (hl.mono fun j hj => List.mem_append_right _ hj))
          refine ⟨⟨k1, g1⟩, fun x hx => ?_, fun j hj => ?_⟩
          · rcases List.mem_cons.1 hx with rfl | hx
            · trivial
            · exact g2 x hx
          · rcases List.mem_append.1 hj with hj | hj
            · exact k2 j hj
            · exact g3 j hj
        · cases h
      | dq ts =>
        simp only [passArgs] at h
        split at h
        · rename_i j off
          split at h
          · rename_i l hj
            split at h
            · rename_i cs hcs
              obtain ⟨⟨x, jx⟩, hx, h⟩ := Tree.run_bind_some h
              obtain ⟨⟨q1, q2⟩, hq, h⟩ := Tree.run_bind_some h
              simp only [Tree.run, Option.some.injEq, Prod.mk.injEq] at h
              obtain ⟨rfl, rfl⟩ := h
              obtain ⟨t1, t2, t3⟩ := takeX_le hcs
              obtain ⟨vs, e1, e2, e3, e4⟩ := hs.obs j _ hj
              have hvr : cellsRep F r cs ((vs.drop off).take ts.len) := by rw [t1]; exact cellsRep_take _ (cellsRep_drop off e1)
              obtain ⟨k1, k2, k3⟩ := viewDs_run hs hx hvr (Q := Q) (fun b o hl => hQ b o (hl.mono fun j hj => List.mem_cons_of_mem _ (List.mem_append_left _ hj)))
              obtain ⟨g1, g2, g3⟩ := passArgs_run hs hσ hq hu.2 (Q := Q) (fun b o hl => hQ b o (hl.mono fun j hj => List.mem_cons_of_mem _ (List.mem_append_right _ hj)))
              refine ⟨⟨⟨(r j).b, (r j).o + off, hu.1, k2 fun i v hv => ?_⟩, g1⟩, fun y hy => ?_, fun j' hj' => ?_⟩
              · have hi : i < ts.len := by have := (List.getElem?_eq_some_iff.1 hv).1; omega
                rw [List.getElem?_take, if_pos hi, List.getElem?_drop] at hv
                have := e2 _ v hv
                rw [← Nat.add_assoc] at this
                refine Fplus_new hs.fin (hQ _ _ ⟨j, _, List.mem_cons_self, hj, rfl, by omega, ?_⟩) this
                have := cellsRep_length e1
                have hvl := (List.getElem?_eq_some_iff.1 hv).1
                omega
              · rcases List.mem_cons.1 hy with rfl | hy
                · trivial
                · exact g2 y hy
              · rcases List.mem_cons.1 hj' with rfl | hj'
                · exact ⟨_, hj⟩
                · rcases List.mem_append.1 hj' with hj' | hj'
                  · exact k3 j' hj'
                  · exact g3 j' hj'
            · cases h
          · cases h
        · rename_i ts' x
          split at h
          · rename_i y hy
            obtain ⟨⟨q1, q2⟩, hq, h⟩ := Tree.run_bind_some h
            simp only [Tree.run, Option.some.injEq, Prod.mk.injEq] at h
            obtain ⟨rfl, rfl⟩ := h
            obtain ⟨g1, g2, g3⟩ := passArgs_run hs hσ hq hu.2 hQ
            refine ⟨⟨?_, g1⟩, fun z hz => ?_, g3⟩
            · have : (Cell.q ts y).rep F r u := toD_rep hy hu.1
              obtain ⟨b, o, e1, e2⟩ := this
              exact ⟨b, o, e1, e2.mono hle hle⟩
            · rcases List.mem_cons.1 hz with rfl | hz
              · trivial
              · exact g2 z hz
          · cases h
        · cases h
end
end Go.Sz
namespace Go.Sz
open Go Go.RowKit Go.Sy
set_option linter.unusedVariables false
set_option linter.unusedSimpArgs false
set_option linter.constructorNameAsVariable false
section
variable {w0 : World} {S : Nat → Nat → Prop} {R0 : Frag} {D : Nat → Prop} {H Hr : Hf} {F : Frag} {r : Loc} {w : World}
theorem Cell.inn_true (c : Cell) : c.inn fun _ => True := by
  cases c <;> first | trivial | exact fun x _ => by cases x <;> trivial
theorem Part.inn_true (x : Part) : x.inn fun _ => True := by
  cases x with
  | one c => exact Cell.inn_true c
  | many l => exact fun c _ => Cell.inn_true c
theorem ObIs.mono {F F' : Frag} {r : Loc} {d : Ld} {w : World} {ob : Ob} (h : ObIs F r d w ob) (hF : F.le F') : ObIs F' r d w ob := by
  cases ob with
  | lit l =>
    obtain ⟨vs, h1, h2, h3, h4⟩ := h
    exact ⟨vs, cellsRep_to (D := fun _ => True) hF (fun _ _ => rfl) (fun c hc => by
      cases c <;> first | trivial | exact fun _ _ => by rename_i x _; cases x <;> trivial) h1, h2, h3, h4⟩
  | row ts l =>
    rcases h with h | ⟨cap, h1, h2, h3, h4, h5⟩
    · exact .inl h
    · exact .inr ⟨cap, h1, h2, h3, h4, fun i x hx => (h5 i x hx).mono (Frag.le_refl _) hF⟩
  | frz ts l => exact RepT.mono hF h
  | dead => trivial
  | mp kt vt m =>
    obtain ⟨h0, es, clock, h1, h2, h3, h4⟩ := h
    exact ⟨h0, es, clock, h1, h2.mono hF, h3, h4⟩
  | cm m =>
    obtain ⟨h0, es, clock, h1, h2, h3, h4⟩ := h
    exact ⟨h0, es, clock, h1, centries_to (D := fun _ => True) hF (fun _ _ => rfl) (fun x _ => Part.inn_true _) h2, h3, h4⟩
  | lr sz n l =>
    rcases h with h | ⟨cap, vs, g1, g2, g3, g4, g5, g6, g7⟩
    · exact .inl h
    · exact .inr ⟨cap, vs, g1, g2, g3, g4, g5, cellsRep_to (D := fun _ => True) hF (fun _ _ => rfl) (fun c _ => Cell.inn_true c) g6, g7⟩
theorem rcOf_some {L : List Sub} {r : Loc} {k : Nat} {s : Sub} {off n : Nat} (h : L[k]? = some s) (hg : s.rg = some (off, n)) : rcOf L r k = ⟨(r s.j).b, (r s.j).o + off, undef⟩ := by
  obtain ⟨j, rg⟩ := s
  simp only at hg; subst hg
  simp only [rcOf, h]
theorem rcOf_none {L : List Sub} {r : Loc} {k : Nat} {s : Sub} (h : L[k]? = some s) (hg : s.rg = none) : rcOf L r k = r s.j := by
  obtain ⟨j, rg⟩ := s
  simp only at hg; subst hg
  simp only [rcOf, h]
theorem pre_of (hm : Mem w0 S R0 D H F r w) (hs : ∀ j ob, Hr j = some ob → H j = some ob) {L : List Sub} (hnd : nodupJ L = true) {hp : List Ob} (hh : subHeap Hr (renS L) L = some hp) {js : List Nat} (hjs : ∀ j ∈ js, hasJ j L = false) :
    Pre (Fplus F w (Lent Hr r js)) (rcOf L r) hp w ∧ ∀ b o, OwnL (nthH hp) (rcOf L r) b o → ∃ s ob, s ∈ L ∧ H s.j = some ob ∧ ob.foot (r s.j) b o := by
  obtain ⟨hlen, hsp⟩ := subHeap_spec hh
  have hle := Fplus_le F w (Lent Hr r js)
  have hget : ∀ k ob, nthH hp k = some ob → ∃ s, L[k]? = some s ∧ k < hp.length := fun k ob hk => by
    simp only [nthH, nth_eq] at hk
    have := (List.getElem?_eq_some_iff.1 hk).1
    exact ⟨L[k]'(by omega), List.getElem?_eq_getElem _, this⟩
  -- the feet lie in the objects' feet
  have hfoot : ∀ k ob s b o, nthH hp k = some ob → L[k]? = some s → ob.foot (rcOf L r k) b o → ∃ ob0, Hr s.j = some ob0 ∧ ob0.foot (r s.j) b o := by
    intro k ob s b o hk hs' hfo
    simp only [nthH, nth_eq] at hk
    rcases hsp k s hs' with ⟨off, n, cs, a, c, h1, h2, h3, h4, h5, h6, h7⟩ | ⟨ob0, ob1, h1, h2, h3, hro, h4⟩
    · rw [h7] at hk; injection hk with hk; subst hk
      refine ⟨_, h2, ?_⟩
      rw [rcOf_some hs' h1] at hfo
      obtain ⟨e, p1, p2⟩ := hfo
      have hl := (renL_rep (renS_ok L r) (F := F) h6).1
      simp only at p1 p2
      exact ⟨e, by omega, by omega⟩
    · rw [h4] at hk; injection hk with hk; subst hk
      refine ⟨_, h2, ?_⟩
      rw [rcOf_none hs' h1] at hfo
      exact (renOb_spec (renS_ok L r) (F := F) (w := w) hro).2.1 _ _ _ hfo
  refine ⟨⟨fun k ob hk => ?_, fun k ob hk => ?_, fun k ob hk => ?_, fun k k' ob ob' b o hk hk' hne hb hb' => ?_, fun b o v hv => ?_, fun b o v k ob hv hk hfo => ?_, Fr.refl _ _, fun k ob b o hk hfo => .inr ⟨k, ob, hk, hfo⟩, Frag.le_refl _, fun b o v hv => .inl hv⟩, fun b o ⟨k, ob, hk, hfo⟩ => ?_⟩
  · obtain ⟨s, hs', hlt⟩ := hget k ob hk
    simp only [nthH, nth_eq] at hk
    rcases hsp k s hs' with ⟨off, n, cs, a, c, h1, h2, h3, h4, h5, h6, h7⟩ | ⟨ob0, ob1, h1, h2, h3, hro, h4⟩
    · rw [h7] at hk; injection hk with hk; subst hk
      obtain ⟨vs, e1, e2, e3, e4⟩ := hm.obs s.j _ (hs _ _ h2)
      obtain ⟨g1, g2, g3⟩ := renL_rep (renS_ok L r) (F := F) h6
      have hvl := cellsRep_length e1
      have hra : cellsRep F r a ((vs.drop off).take n) := by rw [h3]; exact cellsRep_take _ (cellsRep_drop off e1)
      rw [rcOf_some hs' h1]
      refine ⟨_, cellsRep_to hle (fun _ _ => rfl) g2 (g3 _ hra), fun i v hv => ?_, fun i hi => ?_, fun v hv => e4 v (List.mem_of_mem_drop (List.mem_of_mem_take hv))⟩
      · have hi : i < n := by
          have := (List.getElem?_eq_some_iff.1 hv).1
          rw [List.length_take] at this
          exact Nat.lt_of_lt_of_le this (Nat.min_le_left _ _)
        rw [List.getElem?_take, if_pos hi, List.getElem?_drop] at hv
        have := e2 _ v hv
        rw [← Nat.add_assoc] at this; exact this
      · have := e3 (off + i) (by omega)
        rw [← Nat.add_assoc] at this; exact this
    · rw [h4] at hk; injection hk with hk; subst hk
      rw [rcOf_none hs' h1]
      exact (renOb_spec (renS_ok L r) hro).1 _ ((hm.obs s.j _ (hs _ _ h2)).mono hle)
  · exact (hget k ob hk).elim fun s h => h.2
  · obtain ⟨s, hs', hlt⟩ := hget k ob hk
    simp only [nthH, nth_eq] at hk
    rcases hsp k s hs' with ⟨off, n, cs, a, c, h1, h2, h3, h4, h5, h6, h7⟩ | ⟨ob0, ob1, h1, h2, h3, hro, h4⟩
    · rw [h7] at hk; injection hk with hk; subst hk
      have := (renL_rep (renS_ok L r) (F := F) h6).2.1
      exact fun c hc => by have := this c hc; rw [hlen]; exact this
    · rw [h4] at hk; injection hk with hk; subst hk
      rw [hlen]
      exact (renOb_spec (renS_ok L r) (F := F) (w := w) hro).2.2
  · obtain ⟨s, hs1, _⟩ := hget k ob hk
    obtain ⟨s', hs2, _⟩ := hget k' ob' hk'
    obtain ⟨o1, g1, g2⟩ := hfoot k ob s b o hk hs1 hb
    obtain ⟨o2, k1, k2⟩ := hfoot k' ob' s' b o hk' hs2 hb'
    exact hm.disj s.j s'.j o1 o2 b o (hs _ _ g1) (hs _ _ k1) (fun e => hne (nodupJ_spec hnd k k' s s' hs1 hs2 e)) g2 k2
  · rcases Fplus_get hv with h | ⟨_, h⟩
    · exact hm.fin b o v h
    · exact h
  · obtain ⟨s, hs1, _⟩ := hget k ob hk
    obtain ⟨o1, g1, g2⟩ := hfoot k ob s b o hk hs1 hfo
    rcases Fplus_get hv with h | ⟨⟨j, o2, h1, h2, h3⟩, _⟩
    · exact hm.fown b o v s.j o1 h (hs _ _ g1) g2
    · exact hm.disj s.j j o1 o2 b o (hs _ _ g1) (hs _ _ h2) (hasJ_spec (hjs j h1) s (List.mem_of_getElem? hs1)) g2 h3
  · obtain ⟨s, hs1, _⟩ := hget k ob hk
    obtain ⟨o1, g1, g2⟩ := hfoot k ob s b o hk hs1 hfo
    exact ⟨s, o1, List.mem_of_getElem? hs1, hs _ _ g1, g2⟩
end
/-! ### Back -/
def backR (L : List Sub) (nx m' : Nat) : Ren :=
  ⟨fun k o => match nth L k with
    | some ⟨j, some (off, _)⟩ => some (j, off + o)
    | some ⟨_, none⟩ => none
    | none => bif Nat.blt k m' then some (nx + (k - L.length), o) else none,
   fun k => match nth L k with
    | some ⟨j, none⟩ => some j
    | some ⟨_, some _⟩ => none
    | none => bif Nat.blt k m' then some (nx + (k - L.length)) else none⟩
def backUps (H : Hf) (σ : Ren) : List Sub → List Ob → Option (List (Nat × Ob))
  | [], _ => some []
  | _ :: _, [] => none
  | s :: l, ob :: obs => match backUps H σ l obs with
    | none => none
    | some r => match s.rg, ob with
      | some (off, n), .lit cs => match H s.j, renL σ cs with
        | some (.lit old), some cs' => bif Nat.beq cs.length n && Nat.ble (off + n) old.length then some ((s.j, .lit (putR old off cs')) :: r) else none
        | _, _ => none
      | none, ob => bif isLit ob then none else match renOb σ ob with
        | some ob1 => some ((s.j, ob1) :: r)
        | none => none
      | _, _ => none
def newUps (σ : Ren) : Nat → List Ob → Option (List (Nat × Ob))
  | _, [] => some []
  | nx, ob :: obs => match newUps σ (nx + 1) obs with
    | none => none
    | some r => match ob with
      | .lit cs => match renL σ cs with
        | some cs' => some ((nx, .lit cs') :: r)
        | none => none
      | ob => match renOb σ ob with
        | some ob1 => some ((nx, ob1) :: r)
        | none => none
theorem backUps_spec {H : Hf} {σ : Ren} {G : Hf} : ∀ {L : List Sub} {obs : List Ob} {u : List (Nat × Ob)}, backUps H σ L obs = some u → ∀ {j : Nat} {ob : Ob}, updH u G j = some ob →
    (∃ (k : Nat) (s : Sub) (ob' : Ob), L[k]? = some s ∧ s.j = j ∧ obs[k]? = some ob' ∧ ((∃ off n cs cs' old, s.rg = some (off, n) ∧ ob' = .lit cs ∧ H s.j = some (.lit old) ∧ renL σ cs = some cs' ∧ cs.length = n ∧ off + n ≤ old.length ∧ ob = .lit (putR old off cs')) ∨ (s.rg = none ∧ isLit ob' = false ∧ renOb σ ob' = some ob))) ∨ ((∀ s ∈ L, s.j ≠ j) ∧ G j = some ob)
  | [], _, u, h, j, ob, hj => by
    simp only [backUps, Option.some.injEq] at h; subst h
    exact .inr ⟨fun s hs => (by cases hs), hj⟩
  | _ :: _, [], _, h, _, _, _ => by cases h
  | s :: L, o :: obs, u, h, j, ob, hj => by
    simp only [backUps] at h
    split at h
    · cases h
    · rename_i u' hu'
      have rcc : ∀ {x : Ob}, u = (s.j, x) :: u' → (s.j = j ∧ x = ob) ∨ (s.j ≠ j ∧ updH u' G j = some ob) := fun {x} e => by
        subst e
        rw [updH_cons] at hj
        split at hj
        · rename_i e; injection hj with hj; exact .inl ⟨e, hj⟩
        · rename_i e; exact .inr ⟨e, hj⟩
      have lift : s.j ≠ j → updH u' G j = some ob → (∃ (k : Nat) (s' : Sub) (ob' : Ob), (s :: L)[k]? = some s' ∧ s'.j = j ∧ (o :: obs)[k]? = some ob' ∧ ((∃ off n cs cs' old, s'.rg = some (off, n) ∧ ob' = .lit cs ∧ H s'.j = some (.lit old) ∧ renL σ cs = some cs' ∧ cs.length = n ∧ off + n ≤ old.length ∧ ob = .lit (putR old off cs')) ∨ (s'.rg = none ∧ isLit ob' = false ∧ renOb σ ob' = some ob))) ∨ ((∀ s' ∈ s :: L, s'.j ≠ j) ∧ G j = some ob) := fun hne h1 => by
        rcases backUps_spec hu' h1 with ⟨k, s', ob', g1, g2, g3, g4⟩ | ⟨g1, g2⟩
        · exact .inl ⟨k + 1, s', ob', by simpa using g1, g2, by simpa using g3, g4⟩
        · refine .inr ⟨fun s' hs' => ?_, g2⟩
          rcases List.mem_cons.1 hs' with rfl | hs'
          · exact hne
          · exact g1 s' hs'
      cases hrg : s.rg with
      | some p =>
        obtain ⟨off, n⟩ := p
        rw [hrg] at h
        cases o with
        | lit cs =>
          simp only at h
          split at h
          · rename_i old cs' hold hcs
            cases hb : (Nat.beq cs.length n && Nat.ble (off + n) old.length) with
            | false => rw [hb] at h; cases h
            | true =>
              rw [hb] at h
              simp only [cond_true, Option.some.injEq] at h
              simp only [Bool.and_eq_true] at hb
              rcases rcc h.symm with ⟨e, hx⟩ | ⟨e, h1⟩
              · exact .inl ⟨0, s, .lit cs, rfl, e, rfl, .inl ⟨off, n, cs, cs', old, hrg, rfl, hold, hcs, Nat.eq_of_beq_eq_true hb.1, Nat.le_of_ble_eq_true hb.2, hx.symm⟩⟩
              · exact lift e h1
          · cases h
        | row ts l => cases h
        | frz ts l => cases h
        | mp a b c => cases h
        | lr a b c => cases h
        | cm a => cases h
        | dead => cases h
      | none =>
        rw [hrg] at h
        simp only at h
        cases hb : isLit o with
        | true => rw [hb] at h; cases h
        | false =>
          rw [hb] at h
          simp only [cond_false] at h
          split at h
          · rename_i ob1 ho1
            simp only [Option.some.injEq] at h
            rcases rcc h.symm with ⟨e, hx⟩ | ⟨e, h1⟩
            · exact .inl ⟨0, s, o, rfl, e, rfl, .inr ⟨hrg, hb, by rw [← hx]; exact ho1⟩⟩
            · exact lift e h1
          · cases h
theorem newUps_spec {σ : Ren} {G : Hf} : ∀ {nx : Nat} {obs : List Ob} {u : List (Nat × Ob)}, newUps σ nx obs = some u → ∀ {j : Nat} {ob : Ob}, updH u G j = some ob →
    (∃ i ob', j = nx + i ∧ obs[i]? = some ob' ∧ ((∃ cs cs', ob' = .lit cs ∧ renL σ cs = some cs' ∧ ob = .lit cs') ∨ (isLit ob' = false ∧ renOb σ ob' = some ob))) ∨ ((j < nx ∨ nx + obs.length ≤ j) ∧ G j = some ob)
  | nx, [], u, h, j, ob, hj => by
    simp only [newUps, Option.some.injEq] at h; subst h
    exact .inr ⟨by simp; omega, hj⟩
  | nx, o :: obs, u, h, j, ob, hj => by
    simp only [newUps] at h
    split at h
    · cases h
    · rename_i u' hu'
      have rcc : ∀ {x : Ob}, u = (nx, x) :: u' → (nx = j ∧ x = ob) ∨ (nx ≠ j ∧ updH u' G j = some ob) := fun {x} e => by
        subst e
        rw [updH_cons] at hj
        split at hj
        · rename_i e; injection hj with hj; exact .inl ⟨e, hj⟩
        · rename_i e; exact .inr ⟨e, hj⟩
      have lift : nx ≠ j → updH u' G j = some ob → (∃ i ob', j = nx + i ∧ (o :: obs)[i]? = some ob' ∧ ((∃ cs cs', ob' = .lit cs ∧ renL σ cs = some cs' ∧ ob = .lit cs') ∨ (isLit ob' = false ∧ renOb σ ob' = some ob))) ∨ ((j < nx ∨ nx + (o :: obs).length ≤ j) ∧ G j = some ob) := fun hne h1 => by
        rcases newUps_spec hu' h1 with ⟨i, ob', g1, g2, g3⟩ | ⟨g1, g2⟩
        · exact .inl ⟨i + 1, ob', by omega, by simpa using g2, g3⟩
        · exact .inr ⟨by simp only [List.length_cons]; omega, g2⟩
      split at h
      · rename_i cs
        split at h
        · rename_i cs' hcs
          injection h with h
          rcases rcc h.symm with ⟨e, hx⟩ | ⟨e, h1⟩
          · exact .inl ⟨0, .lit cs, by omega, rfl, .inl ⟨cs, cs', rfl, hcs, hx.symm⟩⟩
          · exact lift e h1
        · cases h
      · rename_i hnl
        split at h
        · rename_i ob1 ho1
          injection h with h
          rcases rcc h.symm with ⟨e, hx⟩ | ⟨e, h1⟩
          · refine .inl ⟨0, o, by omega, rfl, .inr ⟨?_, by rw [← hx]; exact ho1⟩⟩
            cases o <;> first | rfl | exact absurd rfl (hnl _)
          · exact lift e h1
        · cases h
section
variable {w0 : World} {S : Nat → Nat → Prop} {R0 : Frag} {D : Nat → Prop} {H Hr : Hf} {F : Frag} {r : Loc} {w : World}
def locBack (r r' : Loc) (nx m n : Nat) : Loc := fun j => if nx ≤ j ∧ j < nx + n then r' (m + (j - nx)) else r j
theorem Mem.call (hm : Mem w0 S R0 D H F r w) (hs : ∀ j ob, Hr j = some ob → H j = some ob) {nx : Nat} {L : List Sub} (hnd : nodupJ L = true) {hp hp' : List Ob} (hnx : ∀ j, nx ≤ j → j < nx + (hp'.length - hp.length) → ¬ D j) (hh : subHeap Hr (renS L) L = some hp) {js : List Nat} (hjs : ∀ j ∈ js, hasJ j L = false)
    {F' F'' : Frag} {r' : Loc} {w' : World} (hpost : Mem w (OwnL (nthH hp) (rcOf L r)) (Fplus F w (Lent Hr r js)) (fun j => j < hp'.length) (nthH hp') F' r' w') (hkeep : ∀ j, j < hp.length → r' j = rcOf L r j) (hlen' : hp.length ≤ hp'.length)
    (hF : F.le F'') (hcase : (F'' = F' ∧ js = []) ∨ (F'' = F ∧ noDOs hp' = true)) {u1 u2 : List (Nat × Ob)} (h1 : backUps Hr (backR L nx hp'.length) L hp' = some u1) (h2 : newUps (backR L nx hp'.length) nx (hp'.drop L.length) = some u2) :
    Mem w0 S R0 (More D nx (hp'.length - hp.length)) (updH (u1 ++ u2) H) F'' (locBack r r' nx hp.length (hp'.length - hp.length)) w' ∧ RenOk (backR L nx hp'.length) r' (locBack r r' nx hp.length (hp'.length - hp.length)) (More D nx (hp'.length - hp.length)) := by
  obtain ⟨hlen, hsp⟩ := subHeap_spec hh
  obtain ⟨hpre, hown⟩ := pre_of hm hs hnd hh hjs
  have hagree : Loc.agree D r (locBack r r' nx hp.length (hp'.length - hp.length)) := fun j hj => by
    unfold locBack
    rw [if_neg (fun e => hnx j e.1 e.2 hj)]
  have hD : ∀ (k : Nat) (s : Sub), L[k]? = some s → D s.j ∧ ∃ ob, Hr s.j = some ob := fun k s hk => by
    rcases hsp k s hk with ⟨off, n, cs, a, c, _, g, _⟩ | ⟨ob0, _, _, g, _⟩
    · exact ⟨hm.dom _ _ (hs _ _ g), _, g⟩
    · exact ⟨hm.dom _ _ (hs _ _ g), _, g⟩
  have hren : RenOk (backR L nx hp'.length) r' (locBack r r' nx hp.length (hp'.length - hp.length)) (More D nx (hp'.length - hp.length)) := by
    refine ⟨fun k o k' o' h => ?_, fun k k' h => ?_⟩
    · simp only [backR, nth_eq] at h
      split at h
      · rename_i j off n hk
        simp only [Option.some.injEq, Prod.mk.injEq] at h
        obtain ⟨rfl, rfl⟩ := h
        have hd := (hD k _ hk).1
        simp only at hd
        have hlt : k < hp.length := by rw [hlen]; exact (List.getElem?_eq_some_iff.1 hk).1
        refine ⟨.inl hd, ?_, ?_⟩
        · rw [hkeep k hlt, hagree _ hd]; simp only [rcOf, hk]
        · rw [hkeep k hlt, hagree _ hd]; simp only [rcOf, hk]; omega
      · cases h
      · rename_i hk
        cases hb : Nat.blt k hp'.length with
        | false => rw [hb] at h; cases h
        | true =>
          rw [hb] at h
          simp only [cond_true, Option.some.injEq, Prod.mk.injEq] at h
          obtain ⟨rfl, rfl⟩ := h
          have hk1 : k < hp'.length := Nat.le_of_ble_eq_true hb
          have hk2 : hp.length ≤ k := by rw [hlen]; exact List.getElem?_eq_none_iff.1 hk
          have e : locBack r r' nx hp.length (hp'.length - hp.length) (nx + (k - L.length)) = r' k := by
            unfold locBack
            rw [if_pos (by omega)]; congr 1; omega
          rw [e]
          exact ⟨.inr (by omega), rfl, rfl⟩
    · simp only [backR, nth_eq] at h
      split at h
      · rename_i j hk
        simp only [Option.some.injEq] at h; subst h
        have hd := (hD k _ hk).1
        simp only at hd
        have hlt : k < hp.length := by rw [hlen]; exact (List.getElem?_eq_some_iff.1 hk).1
        refine ⟨.inl hd, ?_⟩
        rw [hkeep k hlt, hagree _ hd]; simp only [rcOf, hk]
      · cases h
      · rename_i hk
        cases hb : Nat.blt k hp'.length with
        | false => rw [hb] at h; cases h
        | true =>
          rw [hb] at h
          simp only [cond_true, Option.some.injEq] at h; subst h
          have hk1 : k < hp'.length := Nat.le_of_ble_eq_true hb
          have hk2 : hp.length ≤ k := by rw [hlen]; exact List.getElem?_eq_none_iff.1 hk
          have e : locBack r r' nx hp.length (hp'.length - hp.length) (nx + (k - L.length)) = r' k := by
            unfold locBack
            rw [if_pos (by omega)]; congr 1; omega
          exact ⟨.inr (by omega), e⟩
  refine ⟨?_, hren⟩
  -- what the objects of the callee are to the caller
  have hobs : ∀ (k : Nat) (ob : Ob), hp'[k]? = some ob → ObIs F'' r' (r' k) w' ob := fun k ob hk => by
    have := hpost.obs k ob (by simp only [nthH, nth_eq]; exact hk)
    rcases hcase with ⟨e, _⟩ | ⟨e, hn⟩
    · rw [e]; exact this
    · exact noDO_rep (noDOs_mem hn ob (List.mem_of_getElem? hk)) this
  have hget : ∀ j ob, updH (u1 ++ u2) H j = some ob →
      (∃ (k : Nat) (s : Sub) (ob' : Ob), L[k]? = some s ∧ s.j = j ∧ hp'[k]? = some ob' ∧ ((∃ off n cs cs' old, s.rg = some (off, n) ∧ ob' = .lit cs ∧ Hr s.j = some (.lit old) ∧ renL (backR L nx hp'.length) cs = some cs' ∧ cs.length = n ∧ off + n ≤ old.length ∧ ob = .lit (putR old off cs')) ∨ (s.rg = none ∧ isLit ob' = false ∧ renOb (backR L nx hp'.length) ob' = some ob))) ∨
      ((∀ s ∈ L, s.j ≠ j) ∧ ((∃ i ob', j = nx + i ∧ i < hp'.length - hp.length ∧ hp'[hp.length + i]? = some ob' ∧ ((∃ cs cs', ob' = .lit cs ∧ renL (backR L nx hp'.length) cs = some cs' ∧ ob = .lit cs') ∨ (isLit ob' = false ∧ renOb (backR L nx hp'.length) ob' = some ob))) ∨ ((j < nx ∨ nx + (hp'.length - hp.length) ≤ j) ∧ H j = some ob))) := fun j ob hj => by
    rw [updH_append] at hj
    rcases backUps_spec h1 hj with g | ⟨g1, g2⟩
    · exact .inl g
    · refine .inr ⟨g1, ?_⟩
      rcases newUps_spec h2 g2 with ⟨i, ob', k1, k2, k3⟩ | ⟨k1, k2⟩
      · rw [List.getElem?_drop, ← hlen] at k2
        have := (List.getElem?_eq_some_iff.1 k2).1
        exact .inl ⟨i, ob', k1, by omega, k2, k3⟩
      · rw [List.length_drop, ← hlen] at k1
        exact .inr ⟨k1, k2⟩
  have hsub : ∀ b o, OwnL (nthH hp) (rcOf L r) b o → TFoot (fun j => (∃ s ∈ L, s.j = j) ∨ (nx ≤ j ∧ j < nx + (hp'.length - hp.length))) H r b o := fun b o hb => by
    obtain ⟨s, ob, g1, g2, g3⟩ := hown b o hb
    exact ⟨s.j, ob, .inl ⟨s, g1, rfl⟩, g2, g3⟩
  -- the feet of the callee's objects
  have hfeet : ∀ (k : Nat) (ob : Ob) b o, hp'[k]? = some ob → ob.foot (r' k) b o → OwnL (nthH hp) (rcOf L r) b o ∨ w.heap.size ≤ b := fun k ob b o hk hfo => by
    have := hpost.fresh k ob b o (by simp only [nthH, nth_eq]; exact hk) hfo
    exact this.symm
  -- a lit object of the caller: what lies outside of its range is nobody's
  have hout : ∀ (k : Nat) (s : Sub) off n old, L[k]? = some s → s.rg = some (off, n) → Hr s.j = some (.lit old) → ∀ b o, (Ob.lit old).foot (r s.j) b o → ¬ ((r s.j).o + off ≤ o ∧ o < (r s.j).o + off + n) → ¬ OwnL (nthH hp) (rcOf L r) b o ∧ b < w.heap.size := by
    intro k s off n old hk hrg hold b o hfo hnot
    refine ⟨?_, (hm.obs _ _ (hs _ _ hold)).lt hfo⟩
    rintro ⟨k2, ob2, e1, e2⟩
    simp only [nthH, nth_eq] at e1
    have hk2 : k2 < L.length := by rw [← hlen]; exact (List.getElem?_eq_some_iff.1 e1).1
    have hs2 := List.getElem?_eq_getElem hk2
    generalize L[k2] = s2 at hs2
    by_cases hkk : k2 = k
    · subst hkk
      rw [hk] at hs2; injection hs2 with hs2; subst hs2
      rcases hsp k2 _ hk with ⟨off', n', cs, a, c, g1, g2, g3, g4, g5, g6, g7⟩ | ⟨ob0, _, g1, _⟩
      · rw [g7] at e1; injection e1 with e1; subst e1
        rw [rcOf_some hk g1] at e2
        rw [hrg] at g1
        injection g1 with g1; injection g1 with ga gb; subst ga gb
        obtain ⟨_, p1, p2⟩ := e2
        have hl := (renL_rep (renS_ok L r) (F := F) g6).1
        simp only at p1 p2
        exact hnot ⟨p1, by omega⟩
      · rw [hrg] at g1; cases g1
    · have hne : s2.j ≠ s.j := fun e => hkk (nodupJ_spec hnd k2 k s2 s hs2 hk e)
      have : ∃ ob0, Hr s2.j = some ob0 ∧ ob0.foot (r s2.j) b o := by
        rcases hsp k2 _ hs2 with ⟨off', n', cs, a, c, g1, g2, g3, g4, g5, g6, g7⟩ | ⟨ob0, ob1, g1, g2, g3, gro, g4⟩
        · rw [g7] at e1; injection e1 with e1; subst e1
          rw [rcOf_some hs2 g1] at e2
          obtain ⟨p0, p1, p2⟩ := e2
          have hl := (renL_rep (renS_ok L r) (F := F) g6).1
          simp only at p1 p2
          exact ⟨_, g2, p0, by omega, by omega⟩
        · rw [g4] at e1; injection e1 with e1; subst e1
          rw [rcOf_none hs2 g1] at e2
          exact ⟨_, g2, (renOb_spec (renS_ok L r) (F := F) (w := w) gro).2.1 _ _ _ e2⟩
      obtain ⟨ob0, q1, q2⟩ := this
      exact hm.disj s2.j s.j ob0 _ b o (hs _ _ q1) (hs _ _ hold) hne q2 hfo
  -- where a touched object's foot comes from
  have hsrc : ∀ j ob b o, ((∃ s ∈ L, s.j = j) ∨ (nx ≤ j ∧ j < nx + (hp'.length - hp.length))) → updH (u1 ++ u2) H j = some ob → ob.foot (locBack r r' nx hp.length (hp'.length - hp.length) j) b o →
      (∃ (k : Nat) (ob' : Ob), hp'[k]? = some ob' ∧ ob'.foot (r' k) b o ∧ ((∃ s, L[k]? = some s ∧ s.j = j) ∨ (hp.length ≤ k ∧ j = nx + (k - hp.length)))) ∨
      (∃ (k : Nat) (s : Sub) (off n : Nat) (old : List Cell), L[k]? = some s ∧ s.j = j ∧ s.rg = some (off, n) ∧ Hr s.j = some (.lit old) ∧ (Ob.lit old).foot (r s.j) b o ∧ ¬ ((r s.j).o + off ≤ o ∧ o < (r s.j).o + off + n)) := by
    intro j ob b o hj hob hfo
    rcases hget j ob hob with ⟨k, s, ob', g1, g2, g3, g4⟩ | ⟨g1, g2⟩
    · have hd := (hD k s g1).1
      have hlt : k < hp.length := by rw [hlen]; exact (List.getElem?_eq_some_iff.1 g1).1
      rcases g4 with ⟨off, n, cs, cs', old, q1, q2, q3, q4, q5, q6, q7⟩ | ⟨q1, q2, q3⟩
      · subst q7
        rw [← g2, hagree _ hd] at hfo
        have hcl := (renL_rep hren (F := F) q4).1
        obtain ⟨p0, p1, p2⟩ := hfo
        rw [putR_length (by omega)] at p2
        by_cases hin : (r s.j).o + off ≤ o ∧ o < (r s.j).o + off + n
        · refine .inl ⟨k, ob', g3, ?_, .inl ⟨s, g1, g2⟩⟩
          subst q2
          rw [hkeep k hlt, rcOf_some g1 q1]
          exact ⟨p0, hin.1, by simp only; omega⟩
        · exact .inr ⟨k, s, off, n, old, g1, g2, q1, q3, ⟨p0, p1, p2⟩, hin⟩
      · refine .inl ⟨k, ob', g3, ?_, .inl ⟨s, g1, g2⟩⟩
        rw [← g2, hagree _ hd] at hfo
        rw [hkeep k hlt, rcOf_none g1 q1]
        exact (renOb_spec hren (F := F) (w := w) q3).2.1 _ _ _ hfo
    · rcases g2 with ⟨i, ob', k1, k2, k3, k4⟩ | ⟨k1, k2⟩
      · have e : locBack r r' nx hp.length (hp'.length - hp.length) j = r' (hp.length + i) := by
          unfold locBack
          rw [if_pos (by omega)]; congr 1; omega
        rw [e] at hfo
        refine .inl ⟨hp.length + i, ob', k3, ?_, .inr ⟨by omega, by omega⟩⟩
        rcases k4 with ⟨cs, cs', q1, q2, q3⟩ | ⟨q1, q2⟩
        · subst q1 q3
          have hcl := (renL_rep hren (F := F) q2).1
          obtain ⟨p0, p1, p2⟩ := hfo
          exact ⟨p0, p1, by omega⟩
        · exact (renOb_spec hren (F := F) (w := w) q2).2.1 _ _ _ hfo
      · rcases hj with ⟨s, hsL, e⟩ | hj
        · exact absurd e (g1 s hsL)
        · omega
  refine hm.step (T := fun j => (∃ s ∈ L, s.j = j) ∨ (nx ≤ j ∧ j < nx + (hp'.length - hp.length))) (fun j h => .inl h) hagree (fun j ob hn hj => ?_) (fun j ob hj hob => ?_) (fun j ob b o hj hob hfo => ?_) (fun j j' ob ob' b o hj hj' hob hob' hne hb hb' => ?_) (hpost.frame.mono fun b o _ h => hsub b o h) hF (fun b o v hv => ?_)
  · rcases hget j ob hj with ⟨k, s, _, g1, g2, _⟩ | ⟨g1, ⟨i, _, k1, k2, _⟩ | ⟨_, k2⟩⟩
    · exact absurd (.inl ⟨s, List.mem_of_getElem? g1, g2⟩) hn
    · exact absurd (.inr ⟨by omega, by omega⟩) hn
    · exact k2
  · -- what a touched object is
    rcases hget j ob hob with ⟨k, s, ob', g1, g2, g3, g4⟩ | ⟨g1, g2⟩
    · have hd := (hD k s g1).1
      have hlt : k < hp.length := by rw [hlen]; exact (List.getElem?_eq_some_iff.1 g1).1
      refine ⟨.inl (g2 ▸ hd), ?_, ?_⟩
      · rw [← g2, hagree _ hd]
        have hob' := hobs k ob' g3
        rw [hkeep k hlt] at hob'
        rcases g4 with ⟨off, n, cs, cs', old, q1, q2, q3, q4, q5, q6, q7⟩ | ⟨q1, q2, q3⟩
        · subst q7 q2
          obtain ⟨e0, e1, e2⟩ := renL_rep hren (F := F'') q4
          obtain ⟨vs, a1, a2, a3, a4⟩ := hob'
          obtain ⟨us, b1, b2, b3, b4⟩ := hm.obs _ _ (hs _ _ q3)
          have hul := cellsRep_length b1
          have hvl := cellsRep_length a1
          rw [rcOf_some g1 q1] at a2 a3
          simp only at a2 a3
          have b1' := cellsRep_to hF hagree (hm.scp _ _ (hs _ _ q3)) b1
          have hsafe : ∀ i, i < old.length → ¬ (off ≤ i ∧ i < off + n) → w'.cell? ⟨(r s.j).b, (r s.j).o + i, none⟩ = w.cell? ⟨(r s.j).b, (r s.j).o + i, none⟩ ∧ w'.frozen? ⟨(r s.j).b, (r s.j).o + i, none⟩ = w.frozen? ⟨(r s.j).b, (r s.j).o + i, none⟩ := fun i hi hno => by
            obtain ⟨n1, n2⟩ := hout k s off n old g1 q1 q3 (r s.j).b ((r s.j).o + i) ⟨rfl, by omega, by omega⟩ (by omega)
            exact ⟨hpost.frame.cell _ _ n2 n1, hpost.frame.frozen _ _ n2⟩
          refine ⟨_, putR_rep b1' (e2 vs a1), fun i v hv => ?_, fun i hi => ?_, fun v hv => ?_⟩
          · by_cases h3 : i < off
            · rw [List.getElem?_append_left (by simp; omega), List.getElem?_take, if_pos h3] at hv
              rw [(hsafe i (by omega) (by omega)).1]
              exact b2 i v hv
            · rw [List.getElem?_append_right (by simp; omega)] at hv
              rw [show (List.take off us).length = off by simp; omega] at hv
              by_cases h4 : i - off < vs.length
              · rw [List.getElem?_append_left h4] at hv
                have := a2 _ v hv
                rw [← this]; congr 2; omega
              · rw [List.getElem?_append_right (by omega), List.getElem?_drop] at hv
                rw [show off + vs.length + (i - off - vs.length) = i by omega] at hv
                have hi := (List.getElem?_eq_some_iff.1 hv).1
                rw [(hsafe i (by omega) (by omega)).1]
                exact b2 i v hv
          · rw [putR_length (by omega)] at hi
            by_cases h3 : off ≤ i ∧ i < off + n
            · have := a3 (i - off) (by omega)
              rw [show (r s.j).o + off + (i - off) = (r s.j).o + i by omega] at this
              exact this
            · rw [(hsafe i hi h3).1, (hsafe i hi h3).2]
              exact b3 i hi
          · rcases List.mem_append.1 hv with hv | hv
            · exact b4 v (List.mem_of_mem_take hv)
            · rcases List.mem_append.1 hv with hv | hv
              · exact a4 v hv
              · exact b4 v (List.mem_of_mem_drop hv)
        · rw [rcOf_none g1 q1] at hob'
          exact (renOb_spec hren q3).1 _ hob'
      · rcases g4 with ⟨off, n, cs, cs', old, q1, q2, q3, q4, q5, q6, q7⟩ | ⟨q1, q2, q3⟩
        · subst q7
          obtain ⟨e0, e1, e2⟩ := renL_rep hren (F := F'') q4
          intro c hc
          rcases putR_mem hc with hc | hc
          · exact Cell.inn_mono (fun j h => .inl h) (hm.scp _ _ (hs _ _ q3) c hc)
          · exact e1 c hc
        · exact (renOb_spec hren (F := F) (w := w) q3).2.2
    · rcases g2 with ⟨i, ob', k1, k2, k3, k4⟩ | ⟨k1, k2⟩
      · have e : locBack r r' nx hp.length (hp'.length - hp.length) j = r' (hp.length + i) := by
          unfold locBack
          rw [if_pos (by omega)]; congr 1; omega
        have hob' := hobs _ ob' k3
        rw [e]
        refine ⟨.inr (by omega), ?_, ?_⟩
        · rcases k4 with ⟨cs, cs', q1, q2, q3⟩ | ⟨q1, q2⟩
          · subst q1 q3
            obtain ⟨e0, e1, e2⟩ := renL_rep hren (F := F'') q2
            obtain ⟨vs, a1, a2, a3, a4⟩ := hob'
            exact ⟨vs, e2 vs a1, a2, by rw [e0]; exact a3, a4⟩
          · exact (renOb_spec hren q2).1 _ hob'
        · rcases k4 with ⟨cs, cs', q1, q2, q3⟩ | ⟨q1, q2⟩
          · subst q3
            exact (renL_rep hren (F := F'') q2).2.1
          · exact (renOb_spec hren (F := F) (w := w) q2).2.2
      · rcases hj with ⟨s, hsL, e⟩ | hj
        · exact absurd e (g1 s hsL)
        · omega
  · rcases hsrc j ob b o hj hob hfo with ⟨k, ob', g1, g2, _⟩ | ⟨k, s, off, n, old, g1, g2, g3, g4, g5, g6⟩
    · rcases hfeet k ob' b o g1 g2 with h | h
      · exact .inl (hsub b o h)
      · exact .inr h
    · exact .inl ⟨s.j, _, .inl ⟨s, List.mem_of_getElem? g1, rfl⟩, hs _ _ g4, g5⟩
  · rcases hsrc j ob b o hj hob hb with ⟨k, ob1, g1, g2, g3⟩ | ⟨k, s, off, n, old, g1, g2, g3, g4, g5, g6⟩
    · rcases hsrc j' ob' b o hj' hob' hb' with ⟨k', ob2, q1, q2, q3⟩ | ⟨k', s', off', n', old', q1, q2, q3, q4, q5, q6⟩
      · refine hpost.disj k k' ob1 ob2 b o (by simp only [nthH, nth_eq]; exact g1) (by simp only [nthH, nth_eq]; exact q1) (fun e => hne ?_) g2 q2
        subst e
        rcases g3 with ⟨s, a1, a2⟩ | ⟨a1, a2⟩ <;> rcases q3 with ⟨s', c1, c2⟩ | ⟨c1, c2⟩
        · rw [a1] at c1; injection c1 with c1; subst c1; rw [← a2, ← c2]
        · have := (List.getElem?_eq_some_iff.1 a1).1; omega
        · have := (List.getElem?_eq_some_iff.1 c1).1; omega
        · omega
      · obtain ⟨n1, n2⟩ := hout k' s' off' n' old' q1 q3 q4 b o q5 q6
        rcases hfeet k ob1 b o g1 g2 with h | h
        · exact n1 h
        · omega
    · rcases hsrc j' ob' b o hj' hob' hb' with ⟨k', ob2, q1, q2, q3⟩ | ⟨k', s', off', n', old', q1, q2, q3, q4, q5, q6⟩
      · obtain ⟨n1, n2⟩ := hout k s off n old g1 g3 g4 b o g5 g6
        rcases hfeet k' ob2 b o q1 q2 with h | h
        · exact n1 h
        · omega
      · exact hm.disj s.j s'.j _ _ b o (hs _ _ g4) (hs _ _ q4) (fun e => hne (by rw [← g2, ← q2, e])) g5 q5
  · rcases hcase with ⟨e, hj0⟩ | ⟨e, _⟩
    · subst e hj0
      rcases hpost.prov b o v hv with h | h | h
      · rcases Fplus_get h with h | ⟨⟨j, ob, hj, _⟩, _⟩
        · exact .inl h
        · cases hj
      · refine .inr ⟨hpost.fin b o v hv, .inl (hsub b o h), fun j ob hj hob hfo => ?_⟩
        rcases hsrc j ob b o hj hob hfo with ⟨k, ob', g1, g2, _⟩ | ⟨k, s, off, n, old, g1, g2, g3, g4, g5, g6⟩
        · exact hpost.fown b o v k ob' hv (by simp only [nthH, nth_eq]; exact g1) g2
        · exact (hout k s off n old g1 g3 g4 b o g5 g6).1 h
      · refine .inr ⟨hpost.fin b o v hv, .inr h, fun j ob hj hob hfo => ?_⟩
        rcases hsrc j ob b o hj hob hfo with ⟨k, ob', g1, g2, _⟩ | ⟨k, s, off, n, old, g1, g2, g3, g4, g5, g6⟩
        · exact hpost.fown b o v k ob' hv (by simp only [nthH, nth_eq]; exact g1) g2
        · have := (hout k s off n old g1 g3 g4 b o g5 g6).2; omega
    · rw [e] at hv; exact .inl hv
end
end Go.Sz
