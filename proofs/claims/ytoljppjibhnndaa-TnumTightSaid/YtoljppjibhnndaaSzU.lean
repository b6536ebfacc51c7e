/-
  A symbolic machine for one call, with rows of any length: contracts, what is handed to a function.
-/
import Derived.Test.YtoljppjibhnndaaSzT
namespace Go.Sz
open Go Go.RowKit Go.Sy
set_option linter.unusedVariables false
set_option linter.unusedSimpArgs false
set_option linter.constructorNameAsVariable false

/-! ### Contracts -/
/-- How an argument is handed over: a pointer to so many cells, one's own; as it is; a slice, or a pointer to cells, that is only read. -/
inductive Mode where
  | own (n : Nat)
  | any
  | dp (ts : Tys)
  | dq (ts : Tys)

structure Summ where
  modes : List Mode
  /-- may what is told hold what was lent? -/
  esc : Bool
  g : List AV → List Ob → Tree (AV × List Ob)
  /-- what must hold where it is called -/
  ck : List AV → List Ob → Bool

def nthH (l : List Ob) : Hf := fun j => nth l j

def OwnL (H : Hf) (r : Loc) (b o : Nat) : Prop := ∃ j ob, H j = some ob ∧ ob.foot (r j) b o

def Pre (F : Frag) (r : Loc) (H : List Ob) (w : World) : Prop := Mem w (OwnL (nthH H) r) F (fun j => j < H.length) (nthH H) F r w

def Post (F : Frag) (r : Loc) (H : List Ob) (w : World) (v : AV) (H' : List Ob) (e : Ending) (w' : World) : Prop :=
  ∃ u F' r', e = .returned u ∧ Mem w (OwnL (nthH H) r) F (fun j => j < H'.length) (nthH H') F' r' w' ∧ v.rep F' r' u ∧ v.inn (fun j => j < H'.length) ∧ (∀ j, j < H.length → r' j = r j) ∧ H.length ≤ H'.length

/-- What is known of memory that nobody here writes. -/
structure Know where
  ok : Frag → Prop
  mono : ∀ F F' : Frag, F.le F' → ok F → ok F'

def Know.none : Know := ⟨fun _ => True, fun _ _ _ _ => trivial⟩

/-- A function that the model answers at once (a library's function that it stands in for). -/
def Ext (K : Know) (P : Program) (f : FuncId) (s : Summ) : Prop := ∀ (args : List AV) (H H' : List Ob) (v : AV), (s.g args H).run = some (v, H') → s.ck args H = true →
  ∀ (F : Frag) (r : Loc) (w : World) (us : List Value), K.ok F → Pre F r H w → avsRep F r args us → (∀ a ∈ args, a.inn fun j => j < H.length) →
    ∃ u, (callFunc f us.toArray).run P w = .ok (.value u) w ∧ H' = H ∧ v.rep F r u ∧ v.inn fun j => j < H.length

def SummOk (K : Know) (P : Program) (f : FuncId) (s : Summ) : Prop := Ext K P f s ∨
  (∃ fn, P.funcs[f]? = some fn ∧ (fn.name == "runtime.NumGoroutine") = false ∧ fn.body.isNone = false) ∧
  ∀ (args : List AV) (H H' : List Ob) (v : AV), (s.g args H).run = some (v, H') → s.ck args H = true →
    ∀ (F : Frag) (r : Loc) (w : World) (us : List Value), K.ok F → Pre F r H w → avsRep F r args us → (∀ a ∈ args, a.inn fun j => j < H.length) →
      Calls P f us.toArray w (Post F r H w v H')

def TOk (K : Know) (P : Program) (T : FuncId → Option Summ) : Prop := ∀ f s, T f = some s → SummOk K P f s

/-! ### What is handed over -/
structure Sub where
  j : Nat
  rg : Option (Nat × Nat)

def findP : List Sub → Nat → Nat → Nat → Option (Nat × Nat)
  | [], _, _, _ => none
  | ⟨i, some (off, n)⟩ :: l, j, o, k => bif Nat.beq i j && (Nat.ble off o && Nat.ble o (off + n)) then some (k, o - off) else findP l j o (k + 1)
  | ⟨_, none⟩ :: l, j, o, k => findP l j o (k + 1)
def findH : List Sub → Nat → Nat → Option Nat
  | [], _, _ => none
  | ⟨i, none⟩ :: l, j, k => bif Nat.beq i j then some k else findH l j (k + 1)
  | ⟨_, some _⟩ :: l, j, k => findH l j (k + 1)
def renS (S : List Sub) : Ren := ⟨fun j o => findP S j o 0, fun j => findH S j 0⟩

def rcOf (S : List Sub) (r : Loc) : Loc := fun k => match S[k]? with
  | some ⟨j, some (off, _)⟩ => ⟨(r j).b, (r j).o + off, undef⟩
  | some ⟨j, none⟩ => r j
  | none => ⟨0, 0, undef⟩

theorem findP_spec : ∀ {S : List Sub} {j o k k' o' : Nat}, findP S j o k = some (k', o') → ∃ off n, k ≤ k' ∧ S[k' - k]? = some ⟨j, some (off, n)⟩ ∧ off ≤ o ∧ o' = o - off
  | [], _, _, _, _, _, h => by cases h
  | ⟨i, some (off, n)⟩ :: l, j, o, k, k', o', h => by
    simp only [findP] at h
    cases hb : (Nat.beq i j && (Nat.ble off o && Nat.ble o (off + n))) with
    | true =>
      rw [hb] at h
      simp only [cond_true, Option.some.injEq, Prod.mk.injEq] at h
      obtain ⟨rfl, rfl⟩ := h
      simp only [Bool.and_eq_true] at hb
      have := Nat.eq_of_beq_eq_true hb.1
      subst this
      exact ⟨off, n, Nat.le_refl _, by simp, Nat.le_of_ble_eq_true hb.2.1, rfl⟩
    | false =>
      rw [hb] at h
      simp only [cond_false] at h
      obtain ⟨off', n', h1, h2, h3⟩ := findP_spec h
      exact ⟨off', n', by omega, by rw [show k' - k = (k' - (k + 1)) + 1 by omega, List.getElem?_cons_succ]; exact h2, h3⟩
  | ⟨_, none⟩ :: l, j, o, k, k', o', h => by
    simp only [findP] at h
    obtain ⟨off', n', h1, h2, h3⟩ := findP_spec h
    exact ⟨off', n', by omega, by rw [show k' - k = (k' - (k + 1)) + 1 by omega, List.getElem?_cons_succ]; exact h2, h3⟩
theorem findH_spec : ∀ {S : List Sub} {j k k' : Nat}, findH S j k = some k' → k ≤ k' ∧ S[k' - k]? = some ⟨j, none⟩
  | [], _, _, _, h => by cases h
  | ⟨i, none⟩ :: l, j, k, k', h => by
    simp only [findH] at h
    cases hb : Nat.beq i j with
    | true =>
      rw [hb] at h
      simp only [cond_true, Option.some.injEq] at h
      subst h
      have := Nat.eq_of_beq_eq_true hb
      subst this
      exact ⟨Nat.le_refl _, by simp⟩
    | false =>
      rw [hb] at h
      simp only [cond_false] at h
      obtain ⟨h1, h2⟩ := findH_spec h
      exact ⟨by omega, by rw [show k' - k = (k' - (k + 1)) + 1 by omega, List.getElem?_cons_succ]; exact h2⟩
  | ⟨_, some _⟩ :: l, j, k, k', h => by
    simp only [findH] at h
    obtain ⟨h1, h2⟩ := findH_spec h
    exact ⟨by omega, by rw [show k' - k = (k' - (k + 1)) + 1 by omega, List.getElem?_cons_succ]; exact h2⟩

theorem renS_ok (S : List Sub) (r : Loc) : RenOk (renS S) r (rcOf S r) (fun k => k < S.length) := by
  refine ⟨fun j o k o' h => ?_, fun j k h => ?_⟩
  · obtain ⟨off, n, _, h2, h3, rfl⟩ := findP_spec h
    rw [Nat.sub_zero] at h2
    exact ⟨(List.getElem?_eq_some_iff.1 h2).1, by simp only [rcOf, h2], by simp only [rcOf, h2]; omega⟩
  · obtain ⟨_, h2⟩ := findH_spec h
    rw [Nat.sub_zero] at h2
    exact ⟨(List.getElem?_eq_some_iff.1 h2).1, by simp only [rcOf, h2]⟩

def hasJ (j : Nat) : List Sub → Bool
  | [] => false
  | s :: l => bif Nat.beq s.j j then true else hasJ j l
def nodupJ : List Sub → Bool
  | [] => true
  | s :: l => !hasJ s.j l && nodupJ l

theorem hasJ_spec {j : Nat} : ∀ {S : List Sub}, hasJ j S = false → ∀ s ∈ S, s.j ≠ j
  | [], _, s, hs => by cases hs
  | x :: l, h, s, hs => by
    simp only [hasJ] at h
    cases hb : Nat.beq x.j j with
    | true => rw [hb] at h; cases h
    | false =>
      rw [hb] at h
      rcases List.mem_cons.1 hs with rfl | hs
      · intro e; rw [e] at hb; simp at hb
      · exact hasJ_spec h s hs
theorem nodupJ_spec : ∀ {S : List Sub}, nodupJ S = true → ∀ (k k' : Nat) (s s' : Sub), S[k]? = some s → S[k']? = some s' → s.j = s'.j → k = k'
  | [], _, k, _, s, _, h, _, _ => by simp at h
  | x :: l, h, k, k', s, s', hk, hk', e => by
    simp only [nodupJ, Bool.and_eq_true, Bool.not_eq_true'] at h
    cases k with
    | zero =>
      cases k' with
      | zero => rfl
      | succ k' =>
        simp at hk hk'; subst hk
        exact absurd e.symm (hasJ_spec h.1 s' (List.mem_of_getElem? hk'))
    | succ k =>
      cases k' with
      | zero =>
        simp at hk hk'; subst hk'
        exact absurd e (hasJ_spec h.1 s (List.mem_of_getElem? hk))
      | succ k' =>
        rw [nodupJ_spec h.2 k k' s s' (by simpa using hk) (by simpa using hk') e]

/-- Which objects a cell names: by a pointer, or by its own header. -/
def refsK : Cap → List (Nat × Bool)
  | .p j _ => [(j, true)]
  | .h j => [(j, false)]
  | _ => []
def refsKs : List Cap → List (Nat × Bool)
  | [] => []
  | c :: l => refsK c ++ refsKs l
def refsC : Cell → List (Nat × Bool)
  | .p j _ => [(j, true)]
  | .h j => [(j, false)]
  | .e j _ _ _ _ _ => [(j, true)]
  | .er j _ _ _ => [(j, false)]
  | .hs j _ _ _ _ => [(j, false)]
  | .s j _ _ _ _ => [(j, true)]
  | .clo _ caps => refsKs caps
  | _ => []
def refsL : List Cell → List (Nat × Bool)
  | [] => []
  | c :: l => refsC c ++ refsL l
def refsP : Part → List (Nat × Bool)
  | .one c => refsC c
  | .many l => refsL l
def refsPs : List Part → List (Nat × Bool)
  | [] => []
  | c :: l => refsP c ++ refsPs l
def refsA : AV → List (Nat × Bool)
  | .p x => refsP x
  | .t l => refsPs l

def addRefs (H : Hf) : List (Nat × Bool) → List Sub → List Sub
  | [], S => S
  | (j, b) :: l, S => bif hasJ j S then addRefs H l S else bif b then (match H j with
      | some (.lit cs) => addRefs H l (S ++ [⟨j, some (0, cs.length)⟩])
      | _ => addRefs H l S)
    else addRefs H l (S ++ [⟨j, none⟩])

def subs0 (H : Hf) : List Mode → List AV → List Sub → List Sub
  | _, [], S => S
  | [], a :: as, S => subs0 H [] as (addRefs H (refsA a) S)
  | .own n :: ms, a :: as, S => match a with
    | .p (.one (.p j off)) => subs0 H ms as (bif hasJ j S then S else S ++ [⟨j, some (off, n)⟩])
    | _ => subs0 H ms as S
  | .any :: ms, a :: as, S => subs0 H ms as (addRefs H (refsA a) S)
  | _ :: ms, _ :: as, S => subs0 H ms as S

def cellsOfSub (H : Hf) (s : Sub) : List Cell := match s.rg, H s.j with
  | some (off, n), some (.lit l) => (l.drop off).take n
  | _, _ => []

def closeS (H : Hf) : Nat → Nat → List Sub → List Sub
  | 0, _, S => S
  | fuel + 1, i, S => match nth S i with
    | none => S
    | some s => closeS H fuel (i + 1) (addRefs H (refsL (cellsOfSub H s)) S)

def isLit : Ob → Bool
  | .lit _ => true
  | _ => false

def subHeap (H : Hf) (σ : Ren) : List Sub → Option (List Ob)
  | [] => some []
  | s :: l => match s.rg, H s.j, subHeap H σ l with
    | some (off, n), some (.lit cs), some r => match takeX n (cs.drop off) with
      | some a => match renL σ a with
        | some b => some (.lit b :: r)
        | none => none
      | none => none
    | none, some ob, some r => bif isLit ob then none else some (ob :: r)
    | _, _, _ => none

theorem takeX_le {α : Type} {n off : Nat} {l a : List α} (h : takeX n (l.drop off) = some a) : a = (l.drop off).take n ∧ a.length = n ∧ (n = 0 ∨ off + n ≤ l.length) := by
  obtain ⟨h1, h2⟩ := takeX_spec _ _ _ h
  refine ⟨h1, h2, ?_⟩
  have := congrArg List.length h1
  rw [List.length_take, List.length_drop] at this
  omega

theorem subHeap_spec {H : Hf} {σ : Ren} : ∀ {S : List Sub} {hs : List Ob}, subHeap H σ S = some hs → hs.length = S.length ∧ ∀ (k : Nat) (s : Sub), S[k]? = some s →
    (∃ off n cs a b, s.rg = some (off, n) ∧ H s.j = some (.lit cs) ∧ a = (cs.drop off).take n ∧ a.length = n ∧ (n = 0 ∨ off + n ≤ cs.length) ∧ renL σ a = some b ∧ hs[k]? = some (.lit b)) ∨ (∃ ob, s.rg = none ∧ H s.j = some ob ∧ isLit ob = false ∧ hs[k]? = some ob)
  | [], hs, h => by
    simp only [subHeap, Option.some.injEq] at h; subst h
    exact ⟨rfl, fun k s hk => by simp at hk⟩
  | x :: S, hs, h => by
    simp only [subHeap] at h
    split at h
    · rename_i off n cs r' hrg hj hr
      split at h
      · rename_i a ha
        split at h
        · rename_i b hb
          injection h with h; subst h
          obtain ⟨g1, g2⟩ := subHeap_spec hr
          obtain ⟨t1, t2, t3⟩ := takeX_le ha
          refine ⟨by simp [g1], fun k s hk => ?_⟩
          cases k with
          | zero => simp at hk; subst hk; exact .inl ⟨off, n, cs, a, b, hrg, hj, t1, t2, t3, hb, rfl⟩
          | succ k => simpa using g2 k s (by simpa using hk)
        · cases h
      · cases h
    · rename_i ob r' hrg hj hr
      cases hl : isLit ob with
      | true => rw [hl] at h; cases h
      | false =>
        rw [hl] at h
        simp only [cond_false, Option.some.injEq] at h; subst h
        obtain ⟨g1, g2⟩ := subHeap_spec hr
        refine ⟨by simp [g1], fun k s hk => ?_⟩
        cases k with
        | zero => simp at hk; subst hk; exact .inr ⟨ob, hrg, hj, hl, rfl⟩
        | succ k => simpa using g2 k s (by simpa using hk)
    · cases h

def passArgs (H : Hf) (σ : Ren) : List Mode → List AV → Tree (List AV × List Nat)
  | _, [] => .ret ([], [])
  | [], a :: as => match renA σ a with
    | some a' => (passArgs H σ [] as).bind fun q => .ret (a' :: q.1, q.2)
    | none => .fail
  | .dp ts :: ms, a :: as => match a with
    | .p (.one c) => (viewT H ts c).bind fun l => (passArgs H σ ms as).bind fun q => .ret (AV.c (.d ts l.1) :: q.1, l.2 ++ q.2)
    | _ => .fail
  | .dq ts :: ms, a :: as => match a with
    | .p (.one (.p j off)) => match H j with
      | some (.lit l) => match takeX ts.len (l.drop off) with
        | some cs => (viewDs H ts cs).bind fun x => (passArgs H σ ms as).bind fun q => .ret (AV.c (.q ts x.1) :: q.1, j :: (x.2 ++ q.2))
        | none => .fail
      | _ => .fail
    | .p (.one (.q ts' x)) => match toD ts x with
      | some y => (passArgs H σ ms as).bind fun q => .ret (AV.c (.q ts y) :: q.1, q.2)
      | none => .fail
    | _ => .fail
  | _ :: ms, a :: as => match renA σ a with
    | some a' => (passArgs H σ ms as).bind fun q => .ret (a' :: q.1, q.2)
    | none => .fail

section
variable {F : Frag} {r : Loc} {D : Nat → Prop} {w : World} {H : Hf}

theorem toD_rep {ts ts' : Tys} {x : ts.den} {y : ts'.den} (h : toD ts' x = some y) {u : Value} (hu : (Cell.q ts x).rep F r u) : (Cell.q ts' y).rep F r u := by
  unfold toD at h
  split at h
  · rename_i e
    have := Tys.eqb_eq e
    subst this
    injection h with h; subst h; exact hu
  · cases h

theorem passArgs_run (hs : Sees F r D H w) {σ : Ren} {rc : Loc} {D' : Nat → Prop} (hσ : RenOk σ r rc D') : ∀ {ms : List Mode} {as as' : List AV} {js : List Nat} {us : List Value}, (passArgs H σ ms as).run = some (as', js) → avsRep F r as us →
    ∀ {Q : Nat → Nat → Prop}, (∀ b o, Lent H r js b o → Q b o) → avsRep (Fplus F w Q) rc as' us ∧ (∀ a ∈ as', a.inn D') ∧ ∀ j ∈ js, ∃ ob, H j = some ob
  | ms, [], as', js, us, h, hu, Q, hQ => by
    have h' : some (([] : List AV), ([] : List Nat)) = some (as', js) := by cases ms with
      | nil => exact h
      | cons m ms => cases m <;> exact h
    injection h' with h'
    injection h' with h1 h2
    subst h1 h2
    cases us with
    | nil => exact ⟨trivial, fun a ha => (by cases ha), fun j hj => by cases hj⟩
    | cons a b => exact hu.elim
  | ms, a :: as, as', js, [], h, hu, Q, hQ => hu.elim
  | ms, a :: as, as', js, u :: us, h, hu, Q, hQ => by
    have hle := Fplus_le F w Q
    have plain : ∀ {ms' : List Mode}, (match renA σ a with
        | some a' => (passArgs H σ ms' as).bind fun q => Tree.ret (a' :: q.1, q.2)
        | none => .fail).run = some (as', js) → avsRep (Fplus F w Q) rc as' (u :: us) ∧ (∀ a ∈ as', a.inn D') ∧ ∀ j ∈ js, ∃ ob, H j = some ob := by
      intro ms' h
      split at h
      · rename_i a' ha'
        obtain ⟨⟨q1, q2⟩, hq, h⟩ := Tree.run_bind_some h
        simp only [Tree.run, Option.some.injEq, Prod.mk.injEq] at h
        obtain ⟨rfl, rfl⟩ := h
        obtain ⟨g1, g2, g3⟩ := passArgs_run hs hσ hq hu.2 hQ
        obtain ⟨k1, k2⟩ := renA_rep hσ (F := F) ha'
        refine ⟨⟨AV.rep_to hle (fun _ _ => rfl) k1 (k2 u hu.1), g1⟩, fun x hx => ?_, g3⟩
        rcases List.mem_cons.1 hx with rfl | hx
        · exact k1
        · exact g2 x hx
      · cases h
    cases ms with
    | nil => exact plain h
    | cons m ms =>
      cases m with
      | own n => exact plain h
      | any => exact plain h
      | dp ts =>
        simp only [passArgs] at h
        split at h
        · rename_i c
          obtain ⟨⟨l, jl⟩, hl, h⟩ := Tree.run_bind_some h
          obtain ⟨⟨q1, q2⟩, hq, h⟩ := Tree.run_bind_some h
          simp only [Tree.run, Option.some.injEq, Prod.mk.injEq] at h
          obtain ⟨rfl, rfl⟩ := h
          obtain ⟨k1, k2⟩ := viewT_run hs hl hu.1 (Q := Q) (fun b o hl => hQ b o (hl.mono fun j hj => List.mem_append_left _ hj))
          obtain ⟨g1, g2, g3⟩ := passArgs_run hs hσ hq hu.2 (Q := Q) (fun b o hl => hQ b o (hl.mono fun j hj => List.mem_append_right _ hj))
          refine ⟨⟨k1, g1⟩, fun x hx => ?_, fun j hj => ?_⟩
          · rcases List.mem_cons.1 hx with rfl | hx
            · trivial
            · exact g2 x hx
          · rcases List.mem_append.1 hj with hj | hj
            · exact k2 j hj
            · exact g3 j hj
        · cases h
      | dq ts =>
        simp only [passArgs] at h
        split at h
        · rename_i j off
          split at h
          · rename_i l hj
            split at h
            · rename_i cs hcs
              obtain ⟨⟨x, jx⟩, hx, h⟩ := Tree.run_bind_some h
              obtain ⟨⟨q1, q2⟩, hq, h⟩ := Tree.run_bind_some h
              simp only [Tree.run, Option.some.injEq, Prod.mk.injEq] at h
              obtain ⟨rfl, rfl⟩ := h
              obtain ⟨t1, t2, t3⟩ := takeX_le hcs
              obtain ⟨vs, e1, e2, e3, e4⟩ := hs.obs j _ hj
              have hvr : cellsRep F r cs ((vs.drop off).take ts.len) := by rw [t1]; exact cellsRep_take _ (cellsRep_drop off e1)
              obtain ⟨k1, k2, k3⟩ := viewDs_run hs hx hvr (Q := Q) (fun b o hl => hQ b o (hl.mono fun j hj => List.mem_cons_of_mem _ (List.mem_append_left _ hj)))
              obtain ⟨g1, g2, g3⟩ := passArgs_run hs hσ hq hu.2 (Q := Q) (fun b o hl => hQ b o (hl.mono fun j hj => List.mem_cons_of_mem _ (List.mem_append_right _ hj)))
              refine ⟨⟨⟨(r j).b, (r j).o + off, hu.1, k2 fun i v hv => ?_⟩, g1⟩, fun y hy => ?_, fun j' hj' => ?_⟩
              · have hi : i < ts.len := by have := (List.getElem?_eq_some_iff.1 hv).1; omega
                rw [List.getElem?_take, if_pos hi, List.getElem?_drop] at hv
                have := e2 _ v hv
                rw [← Nat.add_assoc] at this
                refine Fplus_new hs.fin (hQ _ _ ⟨j, _, List.mem_cons_self, hj, rfl, by omega, ?_⟩) this
                have := cellsRep_length e1
                have hvl := (List.getElem?_eq_some_iff.1 hv).1
                omega
              · rcases List.mem_cons.1 hy with rfl | hy
                · trivial
                · exact g2 y hy
              · rcases List.mem_cons.1 hj' with rfl | hj'
                · exact ⟨_, hj⟩
                · rcases List.mem_append.1 hj' with hj' | hj'
                  · exact k3 j' hj'
                  · exact g3 j' hj'
            · cases h
          · cases h
        · rename_i ts' x
          split at h
          · rename_i y hy
            obtain ⟨⟨q1, q2⟩, hq, h⟩ := Tree.run_bind_some h
            simp only [Tree.run, Option.some.injEq, Prod.mk.injEq] at h
            obtain ⟨rfl, rfl⟩ := h
            obtain ⟨g1, g2, g3⟩ := passArgs_run hs hσ hq hu.2 hQ
            refine ⟨⟨?_, g1⟩, fun z hz => ?_, g3⟩
            · have : (Cell.q ts y).rep F r u := toD_rep hy hu.1
              obtain ⟨b, o, e1, e2⟩ := this
              exact ⟨b, o, e1, e2.mono hle hle⟩
            · rcases List.mem_cons.1 hz with rfl | hz
              · trivial
              · exact g2 z hz
          · cases h
        · cases h
end
end Go.Sz
