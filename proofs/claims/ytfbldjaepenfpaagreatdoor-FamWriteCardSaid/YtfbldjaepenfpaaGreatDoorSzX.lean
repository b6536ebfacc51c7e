/-
  A symbolic machine for one call, with rows of any length: one operation, whatever it is.
  A symbolic machine for one call, with rows of any length: states, regions; a region that draws its order is evaluated once.
-/
import Derived.Test.YtfbldjaepenfpaaGreatDoorSzV
import Derived.Test.YtfbldjaepenfpaaGreatDoorSzEQ
import Derived.Test.YtfbldjaepenfpaaGreatDoorSzLU
import Derived.Orders
noncomputable section
namespace Go.Sz
open Go Go.RowKit Go.Sy
set_option linter.unusedVariables false
set_option linter.unusedSimpArgs false
set_option linter.constructorNameAsVariable false
def evalAll (E : Ef) : List Operand → Option (List AV)
  | [] => some []
  | x :: l => match evalO E x, evalAll E l with
    | some a, some as => some (a :: as)
    | _, _ => none
def capAs : List Cap → List AV
  | [] => []
  | c :: l => AV.c c.cell :: capAs l
def appendA : List AV → List AV → List AV
  | [], b => b
  | a :: l, b => a :: appendA l b
def hdrs : List Mode → List AV → List Cell
  | .dp _ :: ms, .p (.one (.h j)) :: as => .h j :: hdrs ms as
  | _ :: ms, _ :: as => hdrs ms as
  | _, _ => []
def apartJ (js : List Nat) (L : List Sub) : Bool := match js with
  | [] => true
  | j :: js => !hasJ j L && apartJ js L
def emptyN : List Nat → Bool
  | [] => true
  | _ => false
def panE (eff : Eff) : Option Part := match eff.res with
  | some v => isPan v
  | none => none
theorem isNilP_ren {σ : Ren} {x y : Part} (h : renP σ x = some y) : isNilP y = isNilP x := by
  cases x with
  | one c =>
    simp only [renP] at h
    split at h
    · injection h with h; subst h; rfl
    · cases h
  | many l =>
    simp only [renP] at h
    split at h
    · rename_i l' hl
      injection h with h; subst h
      cases l with
      | nil => simp only [renL, Option.some.injEq] at hl; subst hl; rfl
      | cons a b =>
        simp only [renL] at hl
        split at hl
        · injection hl with hl; subst hl; rfl
        · cases hl
    · cases h
theorem renPs_cons {σ : Ren} {c : Part} {l r : List Part} (h : renPs σ (c :: l) = some r) : ∃ x y, renP σ c = some x ∧ renPs σ l = some y ∧ r = x :: y := by
  simp only [renPs] at h
  split at h
  · rename_i x y hx hy
    injection h with h
    exact ⟨x, y, hx, hy, h.symm⟩
  · cases h
theorem renPs_len {σ : Ren} : ∀ {l r : List Part}, renPs σ l = some r → r.length = l.length
  | [], r, h => by simp only [renPs, Option.some.injEq] at h; subst h; rfl
  | c :: l, r, h => by
    obtain ⟨x, y, _, hy, rfl⟩ := renPs_cons h
    simp [renPs_len hy]
theorem isPan_len {l : List Part} (h : l.length ≠ 4) : isPan (.t l) = none := by
  unfold isPan
  split
  · rename_i heq
    injection heq with heq; subst heq
    exact absurd rfl h
  · rfl
theorem isPan_ren {σ : Ren} {v v' : AV} (h : renA σ v = some v') : isPan v' = (isPan v).bind (renP σ) := by
  cases v with
  | p x =>
    simp only [renA] at h
    split at h
    · injection h with h; subst h; rfl
    · cases h
  | t l =>
    simp only [renA] at h
    split at h
    · rename_i y hy
      injection h with h; subst h
      by_cases hl : l.length = 4
      · match l, hl with
        | [a, b, c, d], _ =>
          obtain ⟨a', y1, ha, hy1, rfl⟩ := renPs_cons hy
          obtain ⟨b', y2, hb, hy2, rfl⟩ := renPs_cons hy1
          obtain ⟨c', y3, hc, hy3, rfl⟩ := renPs_cons hy2
          obtain ⟨d', y4, hd, hy4, rfl⟩ := renPs_cons hy3
          simp only [renPs, Option.some.injEq] at hy4; subst hy4
          simp only [isPan, isNilP_ren ha, isNilP_ren hb, isNilP_ren hc]
          cases (isNilP a && (isNilP b && isNilP c)) with
          | false => rfl
          | true => simp [hd]
      · rw [isPan_len hl, isPan_len (by rw [renPs_len hy]; exact hl)]; rfl
    · cases h
theorem isPan_ren' {σ : Ren} {v v' : AV} (h : renA σ v = some v') {x : Part} (hx : isPan v = some x) : ∃ y, v' = panA y := by
  have h1 := isPan_ren h
  rw [hx] at h1
  simp only [Option.bind_some] at h1
  cases hy : renP σ x with
  | some y => rw [hy] at h1; exact ⟨y, isPan_eq h1⟩
  | none =>
    rw [isPan_eq hx] at h
    simp only [renA, panA] at h
    split at h
    · rename_i y hy0
      obtain ⟨_, _, _, hy1, _⟩ := renPs_cons hy0
      obtain ⟨_, _, _, hy2, _⟩ := renPs_cons hy1
      obtain ⟨_, _, _, hy3, _⟩ := renPs_cons hy2
      obtain ⟨_, _, hy4, _, _⟩ := renPs_cons hy3
      rw [hy] at hy4; cases hy4
    · cases h
def finT (H : Hf) (nx : Nat) (esc : Bool) (L : List Sub) (m : Nat) (ups0 : List (Nat × Ob)) (v : AV) (hp' : List Ob) : Tree Eff :=
  bif Nat.ble m hp'.length && (esc || (noDA v && noDOs hp')) then
    match renA (backR L nx hp'.length) v, backUps H (backR L nx hp'.length) L hp', newUps (backR L nx hp'.length) nx (hp'.drop L.length) with
    | some v', some u1, some u2 => .ret ⟨some v', (u1 ++ u2) ++ ups0, hp'.length - m⟩
    | _, _, _ => .fail
  else .fail
def callT3 (s : Summ) (H1 : Hf) (nx : Nat) (as : List AV) (ups0 : List (Nat × Ob)) (L : List Sub) : Tree Eff :=
  bif nodupJ L then
    match subHeap H1 (renS L) L with
    | some hp => (passArgs H1 (renS L) s.modes as).bind fun q =>
        bif apartJ q.2 L && (!s.esc || emptyN q.2) then
          .ck (s.ck q.1 hp) ((s.g q.1 hp).bind fun r => finT H1 nx (s.esc || emptyN q.2) L hp.length ups0 r.1 r.2)
        else .fail
    | none => .fail
  else .fail
def callT2 (s : Summ) (H : Hf) (nx : Nat) (as : List AV) : Tree Eff :=
  match (bif s.esc then deepL H (hdrs s.modes as) else some ([], [])) with
  | some (_, ups0) => callT3 s (updH ups0 H) nx as ups0 (closeS (updH ups0 H) 60 0 (subs0 (updH ups0 H) s.modes as []))
  | none => .fail
def callT (P : Program) (T : Tab) (H : Hf) (E : Ef) (nx : Nat) (f : Operand) (xs : List Operand) : Tree Eff :=
  match evalO E f, evalAll E xs with
  | some (.p (.one (.clo g caps))), some as => match (bif isFn g then T (fnO g) else none) with
    | some s => callT2 s H nx (appendA (appendA (capAs (caps.take (bdO g))) as) (capAs (caps.drop (bdO g))))
    | none => .fail
  | _, _ => .fail
def methA (P : Program) (t : TypeId) (name : String) : Option FuncId := match P.info? t with
  | some i => match i.methods.find? (·.name == name) with
    | some m => bif m.path.isEmpty then match m.func, P.underlying t with
        | some (f, false), some (.pointer _) => none
        | some (f, false), some _ => some f
        | _, _ => none
      else none
    | none => none
  | none => none
def invoT (P : Program) (T : Tab) (H : Hf) (E : Ef) (nx : Nat) (rv : Operand) (name : String) (xs : List Operand) : Tree Eff :=
  match evalO E rv, evalAll E xs with
  | some (.p (.one (.clo g caps))), some as => bif isFn g then .fail else match methA P (ifcT g) name, ifcPart g caps with
    | some f, some q => match T f with
      | some s => callT2 s H nx (.p q :: as)
      | none => .fail
    | _, _ => .fail
  | _, _ => .fail
def panT (E : Ef) (x : Operand) : Tree Eff := match evalO E x with
  | some (.p (.one (.clo g caps))) => bif isFn g then .fail else .ret ⟨some (panA (.one (.clo g caps))), [], 0⟩
  | _ => .fail
def opT0 (P : Program) (T : Tab) (H : Hf) (E : Ef) (nx : Nat) (o : Oper) : Tree Eff :=
  bif isMapOp H E o then mapT P H E nx o else match o.op with
  | .call c => match c.callee with
    | .value f => callT P T H E nx f c.args.toList
    | .invoke rv name => invoT P T H E nx rv name c.args.toList
    | .builtin _ => memT P H E nx o
  | .panic x => panT E x
  | _ => memT P H E nx o
def opT1 (P : Program) (T : Tab) (H : Hf) (E : Ef) (nx : Nat) (o : Oper) : Tree Eff :=
  bif T.lit then match litAll P H E nx o with
    | some t => t.bind fun eff => bif (panE eff).isNone then .ret eff else .fail
    | none => opT0 P T H E nx o
  else opT0 P T H E nx o
inductive Vw where
  | mv (x : Operand)
  | fa (s : TypeId) (x : Operand) (f : Nat)
  | nc (x : Operand)
  | ex (x : Operand) (i : Nat)
  | no
def vwO (o : Op) : Vw := by
  cases o
  case move x => exact .mv x
  case assign x => exact .mv x
  case fieldAddr s x f => exact .fa s x f
  case nilCheck x => exact .nc x
  case extract x i => exact .ex x i
  all_goals exact .no
def quickT (P : Program) (E : Ef) (o : Oper) (rest : Tree Eff) : Tree Eff := match vwO o.op with
  | .mv x => match evalO E x with
    | some av => .ret ⟨some av, [], 0⟩
    | none => .fail
  | .fa s x f => match evalO E x, pureSem P (fieldOff s f) with
    | some (.p (.one (.p j off))), some k => .ret ⟨some (AV.c (.p j (off + k))), [], 0⟩
    | _, _ => rest
  | .nc x => match evalO E x with
    | some (.p (.one c)) => bif isPtr c then .ret ⟨some (AV.c c), [], 0⟩ else rest
    | _ => rest
  | .ex x i => match evalO E x with
    | some (.t l) => match nth l i with
      | some q => .ret ⟨some (.p q), [], 0⟩
      | none => .fail
    | _ => rest
  | .no => rest
theorem quickT_eq (P : Program) (T : Tab) (H : Hf) (E : Ef) (nx : Nat) (o : Oper) : quickT P E o (opT1 P T H E nx o) = opT1 P T H E nx o := by
  obtain ⟨dst, op, ty, pos, aft, gd⟩ := o
  cases op
  case move x =>
    have h : opT1 P T H E nx ⟨dst, .move x, ty, pos, aft, gd⟩ = quietT (Tree.ofOpt (evalO E x)) := by unfold opT1; cases T.lit <;> rfl
    rw [h]
    show (match evalO E x with | some av => Tree.ret ⟨some av, [], 0⟩ | none => .fail) = quietT (Tree.ofOpt (evalO E x))
    cases evalO E x <;> rfl
  case assign x =>
    have h : opT1 P T H E nx ⟨dst, .assign x, ty, pos, aft, gd⟩ = quietT (Tree.ofOpt (evalO E x)) := by unfold opT1; cases T.lit <;> rfl
    rw [h]
    show (match evalO E x with | some av => Tree.ret ⟨some av, [], 0⟩ | none => .fail) = quietT (Tree.ofOpt (evalO E x))
    cases evalO E x <;> rfl
  case fieldAddr t x f =>
    have h : opT1 P T H E nx ⟨dst, .fieldAddr t x f, ty, pos, aft, gd⟩ = quietT (silT P H E ⟨dst, .fieldAddr t x f, ty, pos, aft, gd⟩) := by unfold opT1; cases T.lit <;> rfl
    simp only [quickT, show vwO (.fieldAddr t x f) = .fa t x f from rfl]
    split
    · rename_i j off k h1 h2
      rw [h]
      simp only [silT, h1, h2]
      rfl
    · rfl
  case nilCheck x =>
    have h : opT1 P T H E nx ⟨dst, .nilCheck x, ty, pos, aft, gd⟩ = quietT (silT P H E ⟨dst, .nilCheck x, ty, pos, aft, gd⟩) := by unfold opT1; cases T.lit <;> rfl
    simp only [quickT, show vwO (.nilCheck x) = .nc x from rfl]
    split
    · rename_i c h1
      cases hp : isPtr c with
      | false => rfl
      | true =>
        rw [h]
        simp only [silT, h1, hp, cond_true]
        rfl
    · rfl
  case extract x i =>
    have h : opT1 P T H E nx ⟨dst, .extract x i, ty, pos, aft, gd⟩ = quietT (silT P H E ⟨dst, .extract x i, ty, pos, aft, gd⟩) := by unfold opT1; cases T.lit <;> rfl
    simp only [quickT, show vwO (.extract x i) = .ex x i from rfl]
    split
    · rename_i l h1
      rw [h]
      simp only [silT, h1]
      split <;> (rename_i hq; simp only [hq]; rfl)
    · rfl
  all_goals rfl
def opT2 (P : Program) (T : Tab) (H : Hf) (E : Ef) (nx : Nat) (o : Oper) : Tree Eff := (bif T.cl then quickT P E o (opT1 P T H E nx o) else opT1 P T H E nx o).flatB T.cl
theorem opT2_run (P : Program) (T : Tab) (H : Hf) (E : Ef) (nx : Nat) (o : Oper) : (opT2 P T H E nx o).run = (opT1 P T H E nx o).run := by
  unfold opT2
  rw [Tree.flatB_run, quickT_eq]
  cases T.cl <;> rfl
/-! ### What a call leaves as it was is no change -/
def hasU : List (Nat × Ob) → Nat → Bool
  | [], _ => false
  | (k, _) :: l, j => bif Nat.beq k j then true else hasU l j
def sameU (H : Hf) (k : Nat) (ob : Ob) (acc : Pairs) : Option Pairs := match H k with
  | some ob' => smOb ob ob' acc
  | none => none
def slimU (H : Hf) : List (Nat × Ob) → Pairs → List (Nat × Ob) × Pairs
  | [], acc => ([], acc)
  | (k, ob) :: l, acc => match (bif hasU l k then none else sameU H k ob acc) with
    | some acc => slimU H l acc
    | none => ((k, ob) :: (slimU H l acc).1, (slimU H l acc).2)
def isCallO : Op → Bool
  | .call _ => true
  | _ => false
def slimT (H : Hf) (t : Tree Eff) : Tree Eff := t.bind fun eff => askT (slimU H eff.ups []).2 (.ret ⟨eff.res, (slimU H eff.ups []).1, eff.nn⟩)
/-! ### Numbers that are not known: an operation is done on what they are, and what it tells is marked -/
def plC : Cell → Cell
  | .y _ p => p.cell
  | c => c
def plP : Part → Part
  | .one c => .one (plC c)
  | .many l => .many (l.map plC)
def plA : AV → AV
  | .p x => .p (plP x)
  | .t l => .t (l.map plP)
def plE (E : Ef) : Ef := fun k => match E k with
  | some av => some (plA av)
  | none => none
def mkC : Cell → Nat
  | .y i _ => i + 1
  | _ => 0
def mkL : List Cell → Nat → Nat
  | [], n => n
  | c :: l, n => mkL l (3 * n + mkC c)
def mkP : Part → Nat
  | .one c => mkC c
  | .many l => mkL l 0
def mkA : AV → Nat
  | .p x => mkP x
  | .t _ => 0
def mkO (E : Ef) (x : Operand) : Nat := match x with
  | .tmp t => (match E t with
    | some av => mkA av
    | none => 0)
  | _ => 0
def opN : BinOp → Nat
  | .add => 100 | .sub => 200 | .mul => 300 | .quo => 400 | .rem => 500 | .and => 600 | .or => 700 | .xor => 800 | .shl => 900 | .shr => 1000
  | .eql => 1100 | .neq => 1200 | .lss => 1300 | .leq => 1400 | .gtr => 1500 | .geq => 1600 | _ => 1700
def cvM (P : Program) (a b : TypeId) (m : Nat) : Nat := match P.underlying a, P.underlying b with
  | some (.int k), some (.int k') => 2 * (bif Nat.beq k.bits k'.bits then m / 2 else 7 * m + 10 + kdN k') + (bif k'.signed then 1 else 0)
  | _, _ => 2 * (7 * m + b)
def moreM (k : Nat) : Nat → Nat
  | 0 => 0
  | n + 1 => 2 * (n + 1 + k)
def mmO (E : Ef) (l : List Operand) : Nat := match l with
  | [x, y] => 7 * mkO E x + 3 * mkO E y
  | _ => 0
def markO (P : Program) (E : Ef) : Op → Nat
  | .binOp op _ x y _ => moreM (opN op) (7 * mkO E x + 3 * mkO E y)
  | .unOp _ _ x => moreM 1900 (5 * mkO E x)
  | .convert a b x => (match mkO E x with
    | 0 => 0
    | n + 1 => cvM P a b n + 1)
  | .pick x _ _ => mkO E x
  | .call c => (match c.callee with
    | .builtin .min => moreM 2000 (mmO E c.args.toList)
    | .builtin .max => moreM 2100 (mmO E c.args.toList)
    | _ => 0)
  | _ => 0
def isZ : Cell → Bool
  | .w _ x => Nat.beq x.toNat 0
  | .v (.int _ n) => eqInt n 0
  | _ => false
def isIn : PV → Bool
  | .w _ _ => true
  | .v (.int _ _) => true
  | _ => false
def zeroLike : PV → Cell
  | .w k _ => .w k 0
  | .v (.int k _) => .v (.int k 0)
  | p => p.cell
def gs2 (op : BinOp) (x y : Cell) : Option Cell := match x, y with
  | .y i p, .y j q => bif Nat.beq i j && (isIn p && isIn q) then (match op with
      | .eql => some (.v (.bool true))
      | .leq => some (.v (.bool true))
      | .geq => some (.v (.bool true))
      | .neq => some (.v (.bool false))
      | .lss => some (.v (.bool false))
      | .gtr => some (.v (.bool false))
      | .sub => some (zeroLike p)
      | .xor => some (zeroLike p)
      | .and => some (.y i p)
      | .or => some (.y i p)
      | _ => none) else none
  | .y i p, c => bif isIn p && isZ c then (match op with
      | .or => some (.y i p)
      | .xor => some (.y i p)
      | .add => some (.y i p)
      | .sub => some (.y i p)
      | .andNot => some (.y i p)
      | .shl => some (.y i p)
      | .shr => some (.y i p)
      | .and => some c
      | .mul => some c
      | _ => none) else none
  | c, .y i p => bif isIn p && isZ c then (match op with
      | .or => some (.y i p)
      | .xor => some (.y i p)
      | .add => some (.y i p)
      | .and => some c
      | .mul => some c
      | .andNot => some c
      | _ => none) else none
  | _, _ => none
def gsMM (E : Ef) (l : List Operand) : Option Cell := match l with
  | [x, y] => (match evalO E x, evalO E y with
    | some (.p (.one (.y i p))), some (.p (.one (.y j _))) => bif Nat.beq i j then some (.y i p) else none
    | _, _ => none)
  | _ => none
def gsO (E : Ef) : Op → Option Cell
  | .binOp op _ x y _ => (match evalO E x, evalO E y with
    | some (.p (.one a)), some (.p (.one b)) => gs2 op a b
    | _, _ => none)
  | .call c => (match c.callee with
    | .builtin .min => gsMM E c.args.toList
    | .builtin .max => gsMM E c.args.toList
    | _ => none)
  | _ => none
def pvC : Cell → Option PV
  | .v x => some (.v x)
  | .w k x => some (.w k x)
  | .y _ p => some p
  | _ => none
def resC (i : Nat) : Cell → Cell
  | .v x => .y i (.v x)
  | .w k x => .y i (.w k x)
  | c => c
def resA (i : Nat) : AV → AV
  | .p (.one c) => .p (.one (resC i c))
  | a => a
def resE (i : Nat) (eff : Eff) : Tree Eff := match panE eff with
  | none => .ret ⟨eff.res.map (resA i), eff.ups, eff.nn⟩
  | some _ => .fail
def gsE (c' : Cell) (eff : Eff) : Tree Eff := match eff.res with
  | some (.p (.one c)) => (match pvC c, pvC c' with
    | some p, some q => .sk (eqPV p q) (.ret ⟨some (.p (.one c')), eff.ups, eff.nn⟩)
    | _, _ => .fail)
  | _ => .fail
def tmO : Operand → List Nat
  | .tmp t => [t]
  | _ => []
def tmQ : Option Operand → List Nat
  | some x => tmO x
  | none => []
def idxO : Op → List Nat
  | .indexAddr _ _ i => tmO i
  | .index _ _ i => tmO i
  | .slice _ _ a b c => tmQ a ++ (tmQ b ++ tmQ c)
  | .makeSlice _ a b => tmO a ++ tmO b
  | _ => []
def anyY (E : Ef) : List Nat → Bool
  | [] => false
  | t :: l => bif Nat.beq (mkO E (.tmp t)) 0 then anyY E l else true
def plX (E : Ef) (ts : List Nat) : Ef := fun k => bif memN k ts then plE E k else E k
def endE (g : Option Cell) (i : Nat) (eff : Eff) : Tree Eff := match g with
  | some c => gsE c eff
  | none => resE i eff
def opK (P : Program) (T : Tab) (H : Hf) (E : Ef) (nx : Nat) (o : Oper) : Tree Eff := bif T.cl && isCallO o.op then slimT H (opT2 P T H E nx o) else opT2 P T H E nx o
def opT (P : Program) (T : Tab) (H : Hf) (E : Ef) (nx : Nat) (o : Oper) : Tree Eff := bif T.cl then
    match markO P E o.op with
    | 0 => bif anyY E (idxO o.op) then opK P T H (plX E (idxO o.op)) nx o else opK P T H E nx o
    | i + 1 => (opT1 P T H (plE E) nx o).opn.bind (endE (gsO E o.op) i)
  else opK P T H E nx o
section
variable {F : Frag} {r : Loc} {D : Nat → Prop}
theorem PV.cell_rep {p : PV} {u : Value} : p.cell.rep F r u ↔ u = p.val := by cases p <;> exact Iff.rfl
theorem PV.cell_inn {p : PV} : p.cell.inn D := by cases p <;> trivial
theorem plC_rep {c : Cell} {u : Value} (h : c.rep F r u) : (plC c).rep F r u := by
  cases c <;> first | exact h | exact PV.cell_rep.2 h
theorem plC_inn {c : Cell} (h : c.inn D) : (plC c).inn D := by
  cases c <;> first | exact h | exact PV.cell_inn
theorem plL_rep : ∀ {l : List Cell} {vs : List Value}, cellsRep F r l vs → cellsRep F r (l.map plC) vs
  | [], [], h => h
  | [], _ :: _, h => h.elim
  | _ :: _, [], h => h.elim
  | _ :: _, _ :: _, h => ⟨plC_rep h.1, plL_rep h.2⟩
theorem plP_rep {c : Part} {u : Value} (h : c.rep F r u) : (plP c).rep F r u := by
  cases c with
  | one c => exact plC_rep h
  | many l => obtain ⟨vs, h1, h2⟩ := h; exact ⟨vs, plL_rep h1, h2⟩
theorem plP_inn {c : Part} (h : c.inn D) : (plP c).inn D := by
  cases c with
  | one c => exact plC_inn h
  | many l => intro c hc; obtain ⟨x, hx, rfl⟩ := List.mem_map.1 hc; exact plC_inn (h x hx)
theorem plPs_rep : ∀ {l : List Part} {vs : List Value}, partsRep F r l vs → partsRep F r (l.map plP) vs
  | [], [], h => h
  | [], _ :: _, h => h.elim
  | _ :: _, [], h => h.elim
  | _ :: _, _ :: _, h => ⟨plP_rep h.1, plPs_rep h.2⟩
theorem plA_rep {c : AV} {u : Value} (h : c.rep F r u) : (plA c).rep F r u := by
  cases c with
  | p c => exact plP_rep h
  | t l => obtain ⟨vs, h1, h2⟩ := h; exact ⟨vs, plPs_rep h1, h2⟩
theorem plA_inn {c : AV} (h : c.inn D) : (plA c).inn D := by
  cases c with
  | p c => exact plP_inn h
  | t l => intro c hc; obtain ⟨x, hx, rfl⟩ := List.mem_map.1 hc; exact plP_inn (h x hx)
theorem plE_rep {E : Ef} {a : Act} (h : EnvR F r E a) : EnvR F r (plE E) a := fun k av hk => by
  unfold plE at hk
  split at hk
  · rename_i av0 h0
    injection hk with hk; subst hk
    obtain ⟨v, h1, h2⟩ := h k av0 h0
    exact ⟨v, h1, plA_rep h2⟩
  · cases hk
theorem plE_inn {E : Ef} (h : EnvIn D E) : EnvIn D (plE E) := fun k av hk => by
  unfold plE at hk
  split at hk
  · rename_i av0 h0
    injection hk with hk; subst hk
    exact plA_inn (h k av0 h0)
  · cases hk
theorem plX_rep {E : Ef} {a : Act} {ts : List Nat} (h : EnvR F r E a) : EnvR F r (plX E ts) a := fun k av hk => by
  unfold plX at hk
  cases hb : memN k ts with
  | true => rw [hb] at hk; exact plE_rep h k av hk
  | false => rw [hb] at hk; exact h k av hk
theorem plX_inn {E : Ef} {ts : List Nat} (h : EnvIn D E) : EnvIn D (plX E ts) := fun k av hk => by
  unfold plX at hk
  cases hb : memN k ts with
  | true => rw [hb] at hk; exact plE_inn h k av hk
  | false => rw [hb] at hk; exact h k av hk
theorem pvC_rep {c : Cell} {p : PV} (h : pvC c = some p) {u : Value} : c.rep F r u ↔ u = p.val := by
  cases c <;> simp only [pvC, Option.some.injEq] at h <;> try (cases h; done)
  all_goals (subst h; exact Iff.rfl)
theorem pvC_inn {c : Cell} {p : PV} (h : pvC c = some p) : c.inn D := by
  cases c <;> first | trivial | (cases h)
theorem resA_rep {i : Nat} {c : AV} {u : Value} (h : c.rep F r u) : (resA i c).rep F r u := by
  unfold resA
  split
  · rename_i c
    cases c <;> exact h
  · exact h
theorem resA_inn {i : Nat} {c : AV} (h : c.inn D) : (resA i c).inn D := by
  unfold resA
  split
  · rename_i c
    cases c <;> exact h
  · exact h
end
theorem updH_not {l : List (Nat × Ob)} {H : Hf} {j : Nat} (h : hasU l j = false) : updH l H j = H j := by
  induction l with
  | nil => rfl
  | cons x l ih =>
    obtain ⟨k, ob⟩ := x
    simp only [hasU] at h
    simp only [updH]
    cases hb : Nat.beq k j with
    | true => rw [hb] at h; cases h
    | false => rw [hb] at h; exact ih h
theorem slimU_upd {Hr H : Hf} (hs : ∀ j ob, Hr j = some ob → H j = some ob) : ∀ (l : List (Nat × Ob)) (acc : Pairs), eqPp (slimU Hr l acc).2 → eqPp acc ∧ ∀ (j : Nat), updH (slimU Hr l acc).1 H j = updH l H j
  | [], acc, he => ⟨he, fun _ => rfl⟩
  | (k, ob) :: l, acc, he => by
    have plain : (bif hasU l k then none else sameU Hr k ob acc) = none → eqPp acc ∧ ∀ (j : Nat), updH (slimU Hr ((k, ob) :: l) acc).1 H j = updH ((k, ob) :: l) H j := fun hn => by
      simp only [slimU, hn] at he ⊢
      obtain ⟨h1, h2⟩ := slimU_upd hs l acc he
      refine ⟨h1, fun j => ?_⟩
      simp only [updH]
      rw [h2 j]
    cases hb : hasU l k with
    | true => exact plain (by rw [hb]; rfl)
    | false =>
      cases hm : sameU Hr k ob acc with
      | none => exact plain (by rw [hb, hm]; rfl)
      | some acc1 =>
        simp only [slimU, hb, hm, cond_false] at he ⊢
        obtain ⟨h1, h2⟩ := slimU_upd hs l acc1 he
        unfold sameU at hm
        split at hm
        · rename_i ob' ho
          obtain ⟨rfl, h3⟩ := smOb_ok _ _ _ _ hm h1
          refine ⟨h3, fun j => ?_⟩
          rw [h2 j]
          simp only [updH]
          cases hk : Nat.beq k j with
          | false => rfl
          | true =>
            have := Nat.eq_of_beq_eq_true hk
            subst this
            rw [updH_not hb, hs _ _ ho]; rfl
        · cases hm
theorem opK_run {P : Program} {T : Tab} {Hr : Hf} {E : Ef} {nx : Nat} {o : Oper} {eff : Eff} (h : (opK P T Hr E nx o).run = some eff) :
    ∃ eff0, (opT1 P T Hr E nx o).run = some eff0 ∧ eff.res = eff0.res ∧ eff.nn = eff0.nn ∧ ∀ H : Hf, (∀ j ob, Hr j = some ob → H j = some ob) → updH eff.ups H = updH eff0.ups H := by
  unfold opK at h
  cases hb : (T.cl && isCallO o.op) with
  | false =>
    rw [hb] at h
    simp only [cond_false, opT2_run] at h
    exact ⟨eff, h, rfl, rfl, fun _ _ => rfl⟩
  | true =>
    rw [hb] at h
    simp only [cond_true] at h
    unfold slimT at h
    obtain ⟨eff0, h1, h2⟩ := Tree.run_bind_some h
    obtain ⟨h3, h2⟩ := askT_run h2
    simp only [Tree.run, Option.some.injEq] at h2
    subst h2
    rw [opT2_run] at h1
    exact ⟨eff0, h1, rfl, rfl, fun H hs => by funext j; exact (slimU_upd hs _ _ h3).2 j⟩
theorem opT_run {P : Program} {T : Tab} {Hr : Hf} {E : Ef} {nx : Nat} {o : Oper} {eff : Eff} (h : (opT P T Hr E nx o).run = some eff) :
    (∃ E', (opK P T Hr E' nx o).run = some eff ∧ (∀ (F : Frag) (r : Loc) (a : Act), EnvR F r E a → EnvR F r E' a) ∧ ∀ D : Nat → Prop, EnvIn D E → EnvIn D E') ∨ ∃ i eff0, (opT1 P T Hr (plE E) nx o).run = some eff0 ∧ panE eff0 = none ∧ (eff = ⟨eff0.res.map (resA i), eff0.ups, eff0.nn⟩ ∨ ∃ c c' p, eff0.res = some (.p (.one c)) ∧ pvC c = some p ∧ pvC c' = some p ∧ eff = ⟨some (.p (.one c')), eff0.ups, eff0.nn⟩) := by
  unfold opT at h
  cases hb : T.cl with
  | false => rw [hb] at h; exact .inl ⟨E, h, fun _ _ _ h => h, fun _ h => h⟩
  | true =>
    rw [hb] at h
    simp only [cond_true] at h
    split at h
    · cases hi : anyY E (idxO o.op) with
      | false => rw [hi] at h; exact .inl ⟨E, h, fun _ _ _ h => h, fun _ h => h⟩
      | true => rw [hi] at h; exact .inl ⟨_, h, fun _ _ _ h => plX_rep h, fun _ h => plX_inn h⟩
    · rename_i i _
      obtain ⟨eff0, h1, h2⟩ := Tree.run_bind_some h
      rw [Tree.opn_run] at h1
      unfold endE at h2
      split at h2
      · rename_i c' _
        unfold gsE at h2
        split at h2
        · rename_i c hc
          split at h2
          · rename_i p q hp hq
            obtain ⟨h3, h4⟩ := Tree.run_sk h2
            have h5 := eqPV_eq h3
            have h4 := Option.some.inj h4
            exact .inr ⟨i, eff0, h1, by unfold panE; rw [hc]; rfl, .inr ⟨c, c', _, hc, hp, by rw [hq, h5], h4.symm⟩⟩
          · cases h2
        · cases h2
      · unfold resE at h2
        split at h2
        · rename_i hp
          simp only [Tree.run, Option.some.injEq] at h2
          exact .inr ⟨i, eff0, h1, hp, .inl h2.symm⟩
        · cases h2
theorem opT_run0 {P : Program} {T : Tab} {H : Hf} {E : Ef} {nx : Nat} {o : Oper} (h : isCallO o.op = false) (hm : markO P E o.op = 0) (hx : idxO o.op = []) : (opT P T H E nx o).run = (opT1 P T H E nx o).run := by
  have e : opT P T H E nx o = opK P T H E nx o := by
    unfold opT
    rw [hm, hx]
    cases T.cl <;> rfl
  rw [e]
  unfold opK
  rw [h, Bool.and_false, cond_false, opT2_run]
section
variable {P : Program} {w0 : World} {S : Nat → Nat → Prop} {R0 : Frag} {D : Nat → Prop} {H Hr : Hf} {F : Frag} {r : Loc} {w : World} {E : Ef}
theorem evalAll_rep {a : Act} (he : EnvR F r E a) : ∀ {l : List Operand} {as : List AV}, evalAll E l = some as → avsRep F r as (l.map a.eval)
  | [], as, h => by simp [evalAll] at h; subst h; trivial
  | x :: l, as, h => by
    simp only [evalAll] at h
    split at h
    · rename_i b bs hb hbs
      injection h with h; subst h
      exact ⟨evalO_rep he hb, evalAll_rep he hbs⟩
    · cases h
theorem evalAll_inn (he : EnvIn D E) : ∀ {l : List Operand} {as : List AV}, evalAll E l = some as → ∀ a ∈ as, a.inn D
  | [], as, h => by simp [evalAll] at h; subst h; intro a ha; cases ha
  | x :: l, as, h => by
    simp only [evalAll] at h
    split at h
    · rename_i b bs hb hbs
      injection h with h; subst h
      intro y hy
      rcases List.mem_cons.1 hy with rfl | hy
      · exact evalO_inn he hb
      · exact evalAll_inn he hbs y hy
    · cases h
theorem capAs_rep : ∀ {caps : List Cap} {vs : List Value}, capsRep F r caps vs → avsRep F r (capAs caps) vs
  | [], [], _ => trivial
  | [], _ :: _, h => h.elim
  | _ :: _, [], h => h.elim
  | c :: l, v :: vs, h => by
    refine ⟨?_, capAs_rep h.2⟩
    have h1 := h.1
    cases c <;> exact h1
theorem capsRep_take : ∀ (n : Nat) {caps : List Cap} {vs : List Value}, capsRep F r caps vs → capsRep F r (caps.take n) (vs.take n)
  | 0, _, _, _ => by simp only [List.take_zero]; trivial
  | n + 1, [], [], _ => trivial
  | n + 1, c :: caps, v :: vs, h => ⟨h.1, capsRep_take n h.2⟩
  | n + 1, [], _ :: _, h => h.elim
  | n + 1, _ :: _, [], h => h.elim
theorem capsRep_drop : ∀ (n : Nat) {caps : List Cap} {vs : List Value}, capsRep F r caps vs → capsRep F r (caps.drop n) (vs.drop n)
  | 0, _, _, h => h
  | n + 1, [], [], _ => trivial
  | n + 1, c :: caps, v :: vs, h => capsRep_drop n h.2
  | n + 1, [], _ :: _, h => h.elim
  | n + 1, _ :: _, [], h => h.elim
theorem capAs_inn : ∀ {caps : List Cap}, (∀ c ∈ caps, c.inn D) → ∀ a ∈ capAs caps, a.inn D
  | [], _, a, ha => by cases ha
  | c :: l, h, a, ha => by
    simp only [capAs, List.mem_cons] at ha
    rcases ha with rfl | ha
    · have h1 := h c List.mem_cons_self
      cases c <;> exact h1
    · exact capAs_inn (fun x hx => h x (List.mem_cons_of_mem _ hx)) a ha
theorem appendA_rep : ∀ {a b : List AV} {us vs : List Value}, avsRep F r a us → avsRep F r b vs → avsRep F r (appendA a b) (us ++ vs)
  | [], _, [], _, _, h => h
  | [], _, _ :: _, _, h, _ => h.elim
  | _ :: _, _, [], _, h, _ => h.elim
  | _ :: _, _, _ :: _, _, h, h' => ⟨h.1, appendA_rep h.2 h'⟩
theorem appendA_inn : ∀ {a b : List AV}, (∀ x ∈ a, x.inn D) → (∀ x ∈ b, x.inn D) → ∀ x ∈ appendA a b, x.inn D
  | [], _, _, h => h
  | y :: l, b, h, h' => fun x hx => by
    rcases List.mem_cons.1 hx with rfl | hx
    · exact h x List.mem_cons_self
    · exact appendA_inn (fun z hz => h z (List.mem_cons_of_mem _ hz)) h' x hx
theorem hdrs_inn : ∀ {ms : List Mode} {as : List AV}, (∀ a ∈ as, a.inn D) → ∀ c ∈ hdrs ms as, c.inn D
  | [], as, _, c, hc => by cases as <;> simp [hdrs] at hc
  | m :: ms, [], _, c, hc => by cases m <;> simp [hdrs] at hc
  | m :: ms, a :: as, h, c, hc => by
    have rest : c ∈ hdrs ms as → c.inn D := fun hc => hdrs_inn (fun x hx => h x (List.mem_cons_of_mem _ hx)) c hc
    unfold hdrs at hc
    split at hc
    · rename_i ts ms' j as' e1 e2
      injection e1 with _ e1; injection e2 with e2 e3
      subst e1 e2 e3
      rcases List.mem_cons.1 hc with rfl | hc
      · exact h _ List.mem_cons_self
      · exact rest hc
    · rename_i e1 e2
      injection e1 with _ e1; injection e2 with _ e2
      subst e1 e2
      exact rest hc
    · cases hc
theorem apartJ_spec : ∀ {js : List Nat} {L : List Sub}, apartJ js L = true → ∀ j ∈ js, hasJ j L = false
  | [], _, _, j, hj => by cases hj
  | x :: js, L, h, j, hj => by
    simp only [apartJ, Bool.and_eq_true, Bool.not_eq_true'] at h
    rcases List.mem_cons.1 hj with rfl | hj
    · exact h.1
    · exact apartJ_spec h.2 j hj
theorem avsRep_length : ∀ {as : List AV} {us : List Value}, avsRep F r as us → us.length = as.length
  | [], [], _ => rfl
  | [], _ :: _, h => h.elim
  | _ :: _, [], h => h.elim
  | _ :: _, _ :: _, h => by simp [avsRep_length h.2]
theorem avsRep_to {F F' : Frag} (hF : F.le F') : ∀ {as : List AV} {us : List Value}, (∀ a ∈ as, a.inn D) → avsRep F r as us → avsRep F' r as us
  | [], [], _, _ => trivial
  | [], _ :: _, _, h => h.elim
  | _ :: _, [], _, h => h.elim
  | a :: as, u :: us, hi, h => ⟨AV.rep_to hF (D := D) (fun _ _ => rfl) (hi a List.mem_cons_self) h.1, avsRep_to hF (fun x hx => hi x (List.mem_cons_of_mem _ hx)) h.2⟩
theorem finT_run {nx : Nat} {esc : Bool} {L : List Sub} {m : Nat} {ups0 : List (Nat × Ob)} {v : AV} {hp' : List Ob} {eff : Eff} (h : (finT Hr nx esc L m ups0 v hp').run = some eff) :
    m ≤ hp'.length ∧ (esc = true ∨ (noDA v = true ∧ noDOs hp' = true)) ∧ ∃ v' u1 u2, renA (backR L nx hp'.length) v = some v' ∧ backUps Hr (backR L nx hp'.length) L hp' = some u1 ∧ newUps (backR L nx hp'.length) nx (hp'.drop L.length) = some u2 ∧ eff = ⟨some v', (u1 ++ u2) ++ ups0, hp'.length - m⟩ := by
  unfold finT at h
  cases hb : (Nat.ble m hp'.length && (esc || (noDA v && noDOs hp'))) with
  | false => rw [hb] at h; cases h
  | true =>
    rw [hb] at h
    simp only [cond_true] at h
    simp only [Bool.and_eq_true, Bool.or_eq_true] at hb
    split at h
    · rename_i v' u1 u2 h1 h2 h3
      simp only [Tree.run, Option.some.injEq] at h
      exact ⟨Nat.le_of_ble_eq_true hb.1, hb.2, v', u1, u2, h1, h2, h3, h.symm⟩
    · cases h
def Done (w0 : World) (S : Nat → Nat → Prop) (R0 : Frag) (D : Nat → Prop) (H : Hf) (F : Frag) (r : Loc) (nx : Nat) (eff : Eff) (e : Ending) (w' : World) : Prop :=
  ∃ u F' r', ((panE eff = none ∧ e = .returned u) ∨ ∃ x p, eff.res = some (panA x) ∧ u = panV p ∧ e = .panicked [{ v := p, recovered := false }]) ∧ After w0 S R0 D H F r nx eff F' r' w' u
theorem callAs {K : Know} {f : FuncId} {s : Summ} (hS : SummOk K P f s) (hk : K.ok R0) (hs : ∀ j ob, Hr j = some ob → H j = some ob) (hm : Mem w0 S R0 D H F r w) {nx : Nat} {eff : Eff} (hnx : ∀ j, nx ≤ j → j < nx + eff.nn → ¬ D j) {as : List AV}
    (h : (callT2 s Hr nx as).run = some eff) {us : List Value} (hargs : avsRep F r as us) (hinn : ∀ x ∈ as, x.inn D) :
    (∃ u w', (callFunc f us.toArray).run P w = .ok (.value u) w' ∧ Done w0 S R0 D H F r nx eff (.returned u) w') ∨
    (∃ fn, P.funcs[f]? = some fn ∧ (fn.name == "runtime.NumGoroutine") = false ∧ fn.body.isNone = false) ∧ Calls P f us.toArray w (Done w0 S R0 D H F r nx eff) := by
  unfold callT2 at h
  split at h
  · rename_i ds0 ups0 hups0
    unfold callT3 at h
    generalize hL : closeS (updH ups0 Hr) 60 0 (subs0 (updH ups0 Hr) s.modes as []) = L at h
    cases hnd : nodupJ L with
    | false => rw [hnd] at h; cases h
    | true =>
      rw [hnd] at h
      simp only [cond_true] at h
      split at h
      · rename_i hp hhp
        obtain ⟨⟨as', js⟩, hq, h⟩ := Tree.run_bind_some h
        cases hb : (apartJ js L && (!s.esc || emptyN js)) with
        | false => simp only [hb] at h; cases h
        | true =>
          simp only [hb, cond_true] at h
          simp only [Bool.and_eq_true, Bool.or_eq_true, Bool.not_eq_true'] at hb
          · obtain ⟨hck, h⟩ := Tree.run_ck h
            obtain ⟨⟨v, hp'⟩, hg, h⟩ := Tree.run_bind_some h
            obtain ⟨hle', hesc, v', u1, u2, e1, e2, e3, rfl⟩ := finT_run h
            obtain ⟨F1, f1, m1⟩ : ∃ F1, F.le F1 ∧ Mem w0 S R0 D (updH ups0 H) F1 r w := by
              cases hes : s.esc with
              | true =>
                rw [hes] at hups0
                obtain ⟨F1, g1, g2, _⟩ := deepL_spec hs hm hups0 (hdrs_inn hinn)
                exact ⟨F1, g1, g2⟩
              | false =>
                rw [hes] at hups0
                simp only [cond_false, Option.some.injEq, Prod.mk.injEq] at hups0
                obtain ⟨_, rfl⟩ := hups0
                exact ⟨F, Frag.le_refl F, hm⟩
            have hs1 := updH_sub hs ups0
            have hargs1 := avsRep_to f1 hinn hargs
            obtain ⟨p1, p2, p3⟩ := passArgs_run (m1.sees.sub hs1) (renS_ok L r) hq hargs1 (Q := Lent (updH ups0 Hr) r js) (fun b o h => h)
            have hjs := apartJ_spec hb.1
            obtain ⟨hpre, _⟩ := pre_of m1 hs1 hnd hhp hjs
            have hlen := (subHeap_spec hhp).1
            have hkc : K.ok (Fplus F1 w (Lent (updH ups0 Hr) r js)) := K.mono _ _ (Frag.le_trans m1.base (Fplus_le _ _ _)) hk
            -- back from it
            have hback : ∀ {F' : Frag} {r' : Loc} {w' : World} {u : Value}, Mem w (OwnL (nthH hp) (rcOf L r)) (Fplus F1 w (Lent (updH ups0 Hr) r js)) (fun j => j < hp'.length) (nthH hp') F' r' w' → v.rep F' r' u → (∀ j, j < hp.length → r' j = rcOf L r j) →
                ∃ F'' r'', After w0 S R0 D H F r nx ⟨some v', (u1 ++ u2) ++ ups0, hp'.length - hp.length⟩ F'' r'' w' u := by
              intro F' r' w' u hpost hvr hkeep
              have fin : ∀ F'', F1.le F'' → ((F'' = F' ∧ js = []) ∨ (F'' = F1 ∧ noDOs hp' = true)) → v.rep F'' r' u → ∃ F'' r'', After w0 S R0 D H F r nx ⟨some v', (u1 ++ u2) ++ ups0, hp'.length - hp.length⟩ F'' r'' w' u := fun F'' hF'' hcase hvr' => by
                obtain ⟨m2, hren⟩ := m1.call hs1 hnd hnx hhp hjs hpost hkeep hle' hF'' hcase e2 e3
                obtain ⟨i1, i2⟩ := renA_rep hren (F := F'') e1
                refine ⟨F'', locBack r r' nx hp.length (hp'.length - hp.length), ⟨?_, Frag.le_trans f1 hF'', ?_, fun av hav => ?_⟩⟩
                · intro j hj
                  unfold locBack
                  rw [if_neg (fun e => hnx j e.1 e.2 hj)]
                · rw [updH_append]; exact m2
                · injection hav with hav; subst hav
                  exact ⟨i2 u hvr', i1⟩
              rcases hesc with hes | ⟨n1, n2⟩
              · have hj0 : js = [] := by
                  have hem : emptyN js = true := by
                    simp only [Bool.or_eq_true] at hes
                    rcases hes with hes | hes
                    · rcases hb.2 with h | h
                      · rw [hes] at h; cases h
                      · exact h
                    · exact hes
                  cases js with
                  | nil => rfl
                  | cons a b => cases hem
                exact fin F' (Frag.le_trans (Fplus_le _ _ _) hpost.base) (.inl ⟨rfl, hj0⟩) hvr
              · exact fin F1 (Frag.le_refl F1) (.inr ⟨rfl, n2⟩) (noDA_rep n1 hvr)
            have hm' : (∀ x ∈ as', x.inn fun j => j < hp.length) := fun x hx => by have := p2 x hx; rw [hlen]; exact this
            have hnone : isPan v = none → panE (⟨some v', (u1 ++ u2) ++ ups0, hp'.length - hp.length⟩ : Eff) = none := fun hnp => by
              unfold panE; simp only []; rw [isPan_ren e1, hnp]; rfl
            rcases hS with hext | ⟨hfn, hcall⟩
            · obtain ⟨u, w', hrun, ⟨u', F', r', hend, q1, q2, q3, q4, q5⟩, hnp⟩ := hext as' hp hp' v hg hck _ _ w _ hkc hpre p1 hm'
              have hu := hend.ret hnp
              injection hu with hu; subst hu
              obtain ⟨F'', r'', hA⟩ := hback q1 q2 q4
              exact .inl ⟨u, w', hrun, u, F'', r'', .inl ⟨hnone hnp, rfl⟩, hA⟩
            · refine .inr ⟨hfn, (hcall as' hp hp' v hg hck _ _ w _ hkc hpre p1 hm').mono ?_⟩
              rintro e w' ⟨u, F', r', hend, q1, q2, q3, q4, q5⟩
              obtain ⟨F'', r'', hA⟩ := hback q1 q2 q4
              rcases hend with ⟨hnp, rfl⟩ | ⟨x, p, hpx, rfl, rfl⟩
              · exact ⟨u, F'', r'', .inl ⟨hnone hnp, rfl⟩, hA⟩
              · obtain ⟨y, rfl⟩ := isPan_ren' e1 hpx
                exact ⟨_, F'', r'', .inr ⟨y, p, rfl, rfl, rfl⟩, hA⟩
      · cases h
  · cases h
theorem call_upon {eff : Eff} {nx : Nat} {f : FuncId} {us : Array Value} {o : Oper} {a : Act} {KK : Act → World → Prop} {Q : Exit → Act → World → Prop}
    (h : (∃ u w', (callFunc f us).run P w = .ok (.value u) w' ∧ Done w0 S R0 D H F r nx eff (.returned u) w') ∨
      (∃ fn, P.funcs[f]? = some fn ∧ (fn.name == "runtime.NumGoroutine") = false ∧ fn.body.isNone = false) ∧ Calls P f us w (Done w0 S R0 D H F r nx eff))
    (hrun : (execOp a.eval o).run P w = (callFunc f us).run P w)
    (hK : panE eff = none → ∀ v w' F' r', After w0 S R0 D H F r nx eff F' r' w' v → KK (a.put o.dst v) w')
    (hP : ∀ x p w' F' r', eff.res = some (panA x) → After w0 S R0 D H F r nx eff F' r' w' (panV p) → Q (.panic [{ v := p, recovered := false }]) a w') : o.wp P a w KK Q := by
  unfold Oper.wp
  rw [hrun]
  rcases h with ⟨u, w', hu, u', F', r', hcase, hA⟩ | ⟨⟨fn, hfn, hname, hbody⟩, hc⟩
  · rw [hu, Oper.upon_value]
    rcases hcase with ⟨hn, he⟩ | ⟨x, p, _, _, he⟩
    · injection he with he; subst he
      exact hK hn u w' F' r' hA
    · cases he
  · have he : (callFunc f us).run P w = .ok (.enter f us) w := by
      have h1 : ¬ fn.name = "runtime.NumGoroutine" := by simpa using hname
      have h2 : ¬ fn.body = none := fun e => by rw [e] at hbody; cases hbody
      simp [callFunc, hfn, h1, h2]
    rw [he, Oper.upon_enter]
    refine hc.mono ?_
    rintro e w' ⟨u, F', r', hcase, hA⟩
    rcases hcase with ⟨hn, rfl⟩ | ⟨x, p, hx, rfl, rfl⟩
    · exact hK hn u w' F' r' hA
    · exact hP x p w' F' r' hx hA
theorem call_wp {K : Know} {T : Tab} (hT : TOk K P T) (hk : K.ok R0) (hs : ∀ j ob, Hr j = some ob → H j = some ob) (hm : Mem w0 S R0 D H F r w) {nx : Nat} {eff : Eff} (hnx : ∀ j, nx ≤ j → j < nx + eff.nn → ¬ D j) {o : Oper} {c : Call} {f : Operand} (ho : o.op = .call c) (hc : c.callee = .value f)
    (h : (callT P T Hr E nx f c.args.toList).run = some eff) {a : Act} (he : EnvR F r E a) (hi : EnvIn D E) {KK : Act → World → Prop} {Q : Exit → Act → World → Prop}
    (hK : panE eff = none → ∀ v w' F' r', After w0 S R0 D H F r nx eff F' r' w' v → KK (a.put o.dst v) w')
    (hP : ∀ x p w' F' r', eff.res = some (panA x) → After w0 S R0 D H F r nx eff F' r' w' (panV p) → Q (.panic [{ v := p, recovered := false }]) a w') : o.wp P a w KK Q := by
  unfold callT at h
  split at h
  · rename_i g caps as hf has
    split at h
    · rename_i s hsm
      have hgb : isFn g = true ∧ T (fnO g) = some s := by
        cases hb : isFn g with
        | false => rw [hb] at hsm; cases hsm
        | true => rw [hb] at hsm; exact ⟨rfl, hsm⟩
      obtain ⟨hgb, hsm⟩ := hgb
      have hfn : AV.rep F r (AV.c (.clo g caps)) (a.eval f) := evalO_rep he hf
      obtain ⟨cvs, hcv, hfv⟩ := hfn
      rw [cloV_fn hgb] at hfv
      have hci : ∀ k ∈ caps, k.inn D := evalO_inn hi hf
      have hargs : avsRep F r (appendA (appendA (capAs (caps.take (bdO g))) as) (capAs (caps.drop (bdO g)))) ((cvs.take (bdO g) ++ c.args.toList.map a.eval) ++ cvs.drop (bdO g)) :=
        appendA_rep (appendA_rep (capAs_rep (capsRep_take _ hcv)) (evalAll_rep he has)) (capAs_rep (capsRep_drop _ hcv))
      have hinn : ∀ x ∈ appendA (appendA (capAs (caps.take (bdO g))) as) (capAs (caps.drop (bdO g))), x.inn D :=
        appendA_inn (appendA_inn (capAs_inn fun k hk => hci k (List.mem_of_mem_take hk)) (evalAll_inn hi has)) (capAs_inn fun k hk => hci k (List.mem_of_mem_drop hk))
      have hval : ((cvs.take (bdO g)).toArray ++ c.args.map a.eval ++ (cvs.drop (bdO g)).toArray : Array Value) = ((cvs.take (bdO g) ++ c.args.toList.map a.eval) ++ cvs.drop (bdO g)).toArray := by
        apply Array.ext'; simp
      refine call_upon (callAs (hT (fnO g) s hsm) hk hs hm hnx h hargs hinn) ?_ hK hP
      obtain ⟨dst, op, type, pos, after, guard⟩ := o
      simp only at ho; subst ho
      rw [← hval]
      simp only [execOp, resolve, hc, hfv, Deferred.ofValue, Sem.run_bind, Sem.run_pure, Result.andThen_ok, invoke]
    · cases h
  · cases h
theorem methA_run {t : TypeId} {name : String} {f : FuncId} (h : methA P t name = some f) (n : Nat) (v : Value) (w : World) : (method (n + 1) t v name).run P w = .ok (f, v) w := by
  unfold methA at h
  split at h
  · rename_i i hi
    split at h
    · rename_i m hm
      cases hb : m.path.isEmpty with
      | false => rw [hb] at h; cases h
      | true =>
        rw [hb] at h
        simp only [cond_true] at h
        have hp : m.path.toList = [] := by
          have : m.path = #[] := by simpa using hb
          rw [this]
        cases hf : m.func with
        | none => rw [hf] at h; cases h
        | some fp =>
        obtain ⟨f', b⟩ := fp
        rw [hf] at h
        cases b with
        | true => cases h
        | false =>
        cases hu : P.underlying t with
        | none => rw [hu] at h; cases h
        | some u =>
          rw [hu] at h
          have hnp : ∀ e, u = .pointer e → False := fun e he => by rw [he] at h; cases h
          have h : some f' = some f := by
            revert h
            cases u <;> first | exact id | exact fun h => by cases h
          injection h with h; subst h
          have hr : (receiverAt t (.val v) false (if m.path.isEmpty then some ((name.splitOn ".").getLastD name) else none)).run P w = .ok v w := by
            unfold receiverAt
            simp only [Sem.run_bind, run_underlying hu, Result.andThen_ok]
            cases u <;> first | rfl | exact (hnp _ rfl).elim
          simp only [method, Sem.run_bind, run_typeInfo _ hi, Result.andThen_ok, hm, hp, follow, Sem.run_pure, hf, hr]
    · cases h
  · cases h
theorem ext1 (x : Value) (ys : Array Value) : (#[x] ++ ys).extract 1 (#[x] ++ ys).size = ys := by
  apply Array.ext
  · simp
  · intro i h1 h2
    simp
theorem dep1 (n : Nat) : n + Made.depth = n + 99 + 1 := by unfold Made.depth; omega
theorem get1 (x : Value) (ys : Array Value) : (#[x] ++ ys)[0]? = some x := by
  rw [Array.getElem?_append_left (by simp)]; rfl
theorem cons1 (x : Value) (ys : Array Value) (ρ : Operand → Value) (l : Array Operand) (h : ys = l.map ρ) : #[x] ++ ys = (x :: l.toList.map ρ).toArray := by
  subst h
  apply Array.ext'; simp
theorem invo_run {o : Oper} {c : Call} {rv : Operand} {name : String} (ho : o.op = .call c) (hc : c.callee = .invoke rv name) {a : Act} {ty : TypeId} {pl : Value} (hfv : a.eval rv = .iface ty pl) {f : FuncId} (hmeth : methA P ty name = some f) :
    (execOp a.eval o).run P w = (callFunc f (pl :: c.args.toList.map a.eval).toArray).run P w := by
  obtain ⟨dst, op, type, pos, after, guard⟩ := o
  simp only at ho; subst ho
  have hm0 := methA_run hmeth (P.types.size + 99) pl w
  simp only [execOp, resolve, hc, Sem.run_bind, Sem.run_pure, Result.andThen_ok, invoke, get1, ext1]
  rw [hfv]
  simp only [callMethod, Sem.run_bind, run_program, Result.andThen_ok]
  rw [dep1, hm0]
  simp only [Result.andThen_ok]
  rw [cons1 pl _ a.eval c.args rfl]
theorem invoT_spec {T : Tab} {nx : Nat} {rv : Operand} {name : String} {xs : List Operand} {eff : Eff} (h : (invoT P T H E nx rv name xs).run = some eff) :
    ∃ g caps as f q s, evalO E rv = some (.p (.one (.clo g caps))) ∧ evalAll E xs = some as ∧ isFn g = false ∧ methA P (ifcT g) name = some f ∧ ifcPart g caps = some q ∧ T f = some s ∧ (callT2 s H nx (.p q :: as)).run = some eff := by
  unfold invoT at h
  split at h
  · rename_i g caps as hf has
    generalize hm : methA P (ifcT g) name = mo at h
    generalize hq : ifcPart g caps = qo at h
    generalize hg : isFn g = b at h
    cases b with
    | true => cases h
    | false =>
      cases mo with
      | none => cases h
      | some f =>
      cases qo with
      | none => cases h
      | some q =>
        simp only [cond_false] at h
        cases hs : T f with
        | none => rw [hs] at h; cases h
        | some s => rw [hs] at h; exact ⟨g, caps, as, f, q, s, hf, has, hg, hm, hq, hs, h⟩
  · cases h
theorem invo_wp {K : Know} {T : Tab} (hT : TOk K P T) (hk : K.ok R0) (hs : ∀ j ob, Hr j = some ob → H j = some ob) (hm : Mem w0 S R0 D H F r w) {nx : Nat} {eff : Eff} (hnx : ∀ j, nx ≤ j → j < nx + eff.nn → ¬ D j) {o : Oper} {c : Call} {rv : Operand} {name : String} (ho : o.op = .call c) (hc : c.callee = .invoke rv name)
    (h : (invoT P T Hr E nx rv name c.args.toList).run = some eff) {a : Act} (he : EnvR F r E a) (hi : EnvIn D E) {KK : Act → World → Prop} {Q : Exit → Act → World → Prop}
    (hK : panE eff = none → ∀ v w' F' r', After w0 S R0 D H F r nx eff F' r' w' v → KK (a.put o.dst v) w')
    (hP : ∀ x p w' F' r', eff.res = some (panA x) → After w0 S R0 D H F r nx eff F' r' w' (panV p) → Q (.panic [{ v := p, recovered := false }]) a w') : o.wp P a w KK Q := by
  obtain ⟨g, caps, as, f, q, s, hf, has, hg, hmeth, hq, hsm, h⟩ := invoT_spec h
  have hfn : AV.rep F r (AV.c (.clo g caps)) (a.eval rv) := evalO_rep he hf
  obtain ⟨cvs, hcv, hfv⟩ := hfn
  rw [cloV_ifc hg] at hfv
  have hci : ∀ k ∈ caps, k.inn D := evalO_inn hi hf
  have hq1 := ifcPart_rep hq hcv
  generalize (bif ifcA g then .agg cvs.toArray else cvs.headD (.tuple #[])) = pl at hfv hq1
  have hargs : avsRep F r (.p q :: as) (pl :: c.args.toList.map a.eval) := ⟨hq1, evalAll_rep he has⟩
  have hinn : ∀ x ∈ AV.p q :: as, x.inn D := by
    intro x hx
    rcases List.mem_cons.1 hx with rfl | hx
    · exact ifcPart_inn hq hci
    · exact evalAll_inn hi has x hx
  exact call_upon (callAs (hT f s hsm) hk hs hm hnx h hargs hinn) (invo_run ho hc hfv hmeth) hK hP
theorem pan_wp (hs : ∀ j ob, Hr j = some ob → H j = some ob) (hm : Mem w0 S R0 D H F r w) {nx : Nat} {eff : Eff} {o : Oper} {x : Operand} (ho : o.op = .panic x)
    (h : (panT E x).run = some eff) {a : Act} (he : EnvR F r E a) (hi : EnvIn D E) {KK : Act → World → Prop} {Q : Exit → Act → World → Prop}
    (hP : ∀ x p w' F' r', eff.res = some (panA x) → After w0 S R0 D H F r nx eff F' r' w' (panV p) → Q (.panic [{ v := p, recovered := false }]) a w') : o.wp P a w KK Q := by
  unfold panT at h
  split at h
  · rename_i g caps hx
    cases hg : isFn g with
    | true => rw [hg] at h; cases h
    | false =>
      rw [hg] at h
      simp only [cond_false, Tree.run, Option.some.injEq] at h; subst h
      have hr : AV.rep F r (AV.c (.clo g caps)) (a.eval x) := evalO_rep he hx
      have hr' := hr
      obtain ⟨cvs, hcv, hfv⟩ := hr'
      rw [cloV_ifc hg] at hfv
      obtain ⟨dst, op, type, pos, after, guard⟩ := o
      simp only at ho; subst ho
      have hrun : (execOp a.eval ⟨dst, .panic x, type, pos, after, guard⟩).run P w = .halt (.panic (a.eval x)) w := by
        simp only [execOp, Sem.run_bind]
        rw [hfv]; rfl
      unfold Oper.wp
      rw [hrun, Oper.upon_panic]
      refine hP _ (a.eval x) w F r rfl ⟨fun _ _ => rfl, Frag.le_refl F, hm.monoD (fun j hj => .inl hj), fun av hav => ?_⟩
      injection hav with hav; subst hav
      exact ⟨panA_rep' hr, panA_inn.2 (AV.inn_mono (fun j hj => .inl hj) (evalO_inn hi hx))⟩
  · cases h
def mayPan : Op → Bool
  | .call c => (match c.callee with | .builtin _ => false | _ => true)
  | .panic _ => true
  | _ => false
theorem mayPan_map {o : Oper} (hmp : isMapOp H E o = true) : mayPan o.op = false := by
  unfold isMapOp at hmp
  unfold mayPan
  cases ho : o.op <;> rw [ho] at hmp <;> first | rfl | (simp at hmp; done) | skip
  rename_i c
  simp only [] at hmp ⊢
  cases hc : c.callee <;> rw [hc] at hmp <;> first | rfl | (simp at hmp)
theorem op_wp0 {K : Know} {T : Tab} (hT : TOk K P T) (hk : K.ok R0) (hs : ∀ j ob, Hr j = some ob → H j = some ob) (hm : Mem w0 S R0 D H F r w) {nx : Nat} {eff : Eff} (hnx : ∀ j, nx ≤ j → j < nx + eff.nn → ¬ D j) {o : Oper}
    (h : (opT0 P T Hr E nx o).run = some eff) {a : Act} (he : EnvR F r E a) (hi : EnvIn D E) (hmay : panE eff = none ∨ mayPan o.op = true) {KK : Act → World → Prop} {Q : Exit → Act → World → Prop}
    (hK : panE eff = none → ∀ v w' F' r', After w0 S R0 D H F r nx eff F' r' w' v → KK (a.put o.dst v) w')
    (hP : ∀ x p w' F' r', eff.res = some (panA x) → After w0 S R0 D H F r nx eff F' r' w' (panV p) → Q (.panic [{ v := p, recovered := false }]) a w') : o.wp P a w KK Q := by
  have hmem : mayPan o.op = false → (memT P Hr E nx o).run = some eff → o.wp P a w KK Q := fun hmp h => by
    have hK := hK (hmay.resolve_right (by rw [hmp]; simp))
    obtain ⟨n, v, w', F', r', g1, g2, g3⟩ := mem_out hs hm hnx h he hi
    unfold Oper.wp
    rw [g1]
    rcases g2 with rfl | ⟨rfl, rfl⟩
    · exact hK v w' F' r' g3
    · exact hK undef w' F' r' g3
  unfold opT0 at h
  cases hmp : isMapOp Hr E o with
  | true =>
    rw [hmp] at h
    have hmf : mayPan o.op = false := mayPan_map hmp
    have hK := hK (hmay.resolve_right (by rw [hmf]; simp))
    obtain ⟨n, v, w', F', r', g1, g2, g3⟩ := map_out hs hm hnx h he hi
    unfold Oper.wp
    rw [g1]
    rcases g2 with rfl | ⟨rfl, rfl⟩
    · exact hK v w' F' r' g3
    · exact hK undef w' F' r' g3
  | false =>
  rw [hmp] at h
  simp only [cond_false] at h
  split at h
  · rename_i c ho
    split at h
    · rename_i f hc
      exact call_wp hT hk hs hm hnx ho hc h he hi hK hP
    · rename_i rv nm hc
      exact invo_wp hT hk hs hm hnx ho hc h he hi hK hP
    · rename_i b hc
      exact hmem (by rw [ho]; unfold mayPan; simp [hc]) h
  · rename_i x ho
    exact pan_wp hs hm ho h he hi hP
  · rename_i h1 h2
    refine hmem ?_ h
    cases ho : o.op <;> first | rfl | exact (h1 _ ho).elim | exact (h2 _ ho).elim
theorem op_wpP1 {K : Know} {T : Tab} (hT : TOk K P T) (hk : K.ok R0) (hs : ∀ j ob, Hr j = some ob → H j = some ob) (hm : Mem w0 S R0 D H F r w) {nx : Nat} {eff : Eff} (hnx : ∀ j, nx ≤ j → j < nx + eff.nn → ¬ D j) {o : Oper}
    (h : (opT1 P T Hr E nx o).run = some eff) {a : Act} (he : EnvR F r E a) (hi : EnvIn D E) (hmay : panE eff = none ∨ mayPan o.op = true) {KK : Act → World → Prop} {Q : Exit → Act → World → Prop}
    (hK : panE eff = none → ∀ v w' F' r', After w0 S R0 D H F r nx eff F' r' w' v → KK (a.put o.dst v) w')
    (hP : ∀ x p w' F' r', eff.res = some (panA x) → After w0 S R0 D H F r nx eff F' r' w' (panV p) → Q (.panic [{ v := p, recovered := false }]) a w') : o.wp P a w KK Q := by
  unfold opT1 at h
  cases hl : T.lit with
  | false =>
    rw [hl] at h
    exact op_wp0 hT hk hs hm hnx h he hi hmay hK hP
  | true =>
    rw [hl] at h
    simp only [cond_true] at h
    split at h
    · rename_i t ht
      obtain ⟨eff', h1, h2⟩ := Tree.run_bind_some h
      have hpn : panE eff = none := by
        cases hb : (panE eff').isNone with
        | false => rw [hb] at h2; cases h2
        | true =>
          rw [hb] at h2
          simp only [cond_true, Tree.run, Option.some.injEq] at h2; subst h2
          simpa using hb
      have heq : eff' = eff := by
        cases hb : (panE eff').isNone with
        | false => rw [hb] at h2; cases h2
        | true => rw [hb] at h2; simpa [Tree.run] using h2
      subst heq
      obtain ⟨n, v, w', F', r', g1, g2, g3⟩ := litAll_out hs hm hnx ht h1 he hi
      unfold Oper.wp
      rw [g1]
      rcases g2 with rfl | ⟨rfl, rfl⟩
      · exact hK hpn v w' F' r' g3
      · exact hK hpn undef w' F' r' g3
    · exact op_wp0 hT hk hs hm hnx h he hi hmay hK hP
theorem op_wpP {K : Know} {T : Tab} (hT : TOk K P T) (hk : K.ok R0) (hs : ∀ j ob, Hr j = some ob → H j = some ob) (hm : Mem w0 S R0 D H F r w) {nx : Nat} {eff : Eff} (hnx : ∀ j, nx ≤ j → j < nx + eff.nn → ¬ D j) {o : Oper}
    (h : (opT P T Hr E nx o).run = some eff) {a : Act} (he : EnvR F r E a) (hi : EnvIn D E) (hmay : panE eff = none ∨ mayPan o.op = true) {KK : Act → World → Prop} {Q : Exit → Act → World → Prop}
    (hK : panE eff = none → ∀ v w' F' r', After w0 S R0 D H F r nx eff F' r' w' v → KK (a.put o.dst v) w')
    (hP : ∀ x p w' F' r', eff.res = some (panA x) → After w0 S R0 D H F r nx eff F' r' w' (panV p) → Q (.panic [{ v := p, recovered := false }]) a w') : o.wp P a w KK Q := by
  rcases opT_run h with ⟨E', h, hE1, hE2⟩ | ⟨i, eff0, h0, hp0, hcase⟩
  rotate_left
  · have nopan : ∀ x, eff0.res = some (panA x) → False := fun x hx => by
      unfold panE at hp0
      rw [hx] at hp0
      simp only [isPan_panA] at hp0
      cases hp0
    rcases hcase with rfl | ⟨c, c', p, hc, hp, hq, rfl⟩
    · refine op_wpP1 (eff := eff0) hT hk hs hm hnx h0 (plE_rep he) (plE_inn hi) (.inl hp0) (fun hn v w' F' r' ha => hK ?_ v w' F' r' ⟨ha.agree, ha.le, ha.mem, fun av hav => ?_⟩) fun x p w' F' r' hx ha => (nopan x hx).elim
      · unfold panE at hp0 ⊢
        cases hr : eff0.res with
        | none => rfl
        | some v =>
          rw [hr] at hp0
          show isPan (resA i v) = none
          unfold resA
          split
          · rfl
          · exact hp0
      · obtain ⟨v0, h1, rfl⟩ := Option.map_eq_some_iff.1 hav
        exact ⟨resA_rep (ha.res _ h1).1, resA_inn (ha.res _ h1).2⟩
    · refine op_wpP1 (eff := eff0) hT hk hs hm hnx h0 (plE_rep he) (plE_inn hi) (.inl hp0) (fun hn v w' F' r' ha => hK rfl v w' F' r' ⟨ha.agree, ha.le, ha.mem, fun av hav => ?_⟩) fun x p w' F' r' hx ha => (nopan x hx).elim
      injection hav with hav; subst hav
      have h1 := (ha.res _ hc).1
      exact ⟨(pvC_rep hq).2 ((pvC_rep hp).1 h1), pvC_inn hq⟩
  obtain ⟨eff0, h0, e1, e2, e3⟩ := opK_run h
  have e3 := e3 H hs
  have hp : panE eff0 = panE eff := by unfold panE; rw [e1]
  have conv : ∀ {F' r' w' v}, After w0 S R0 D H F r nx eff0 F' r' w' v → After w0 S R0 D H F r nx eff F' r' w' v := fun ha =>
    ⟨ha.agree, ha.le, by rw [e2, e3]; exact ha.mem, by rw [e1, e2]; exact ha.res⟩
  exact op_wpP1 hT hk hs hm (by rw [← e2]; exact hnx) h0 (hE1 _ _ _ he) (hE2 _ hi) (by rw [hp]; exact hmay) (fun hn v w' F' r' ha => hK (by rw [← hp]; exact hn) v w' F' r' (conv ha)) fun x p w' F' r' hx ha => hP x p w' F' r' (by rw [e1]; exact hx) (conv ha)
theorem op_wp {K : Know} {T : Tab} (hT : TOk K P T) (hk : K.ok R0) (hs : ∀ j ob, Hr j = some ob → H j = some ob) (hm : Mem w0 S R0 D H F r w) {nx : Nat} {eff : Eff} (hnx : ∀ j, nx ≤ j → j < nx + eff.nn → ¬ D j) {o : Oper}
    (h : (opT P T Hr E nx o).run = some eff) {a : Act} (he : EnvR F r E a) (hi : EnvIn D E) (hnp : panE eff = none) {KK : Act → World → Prop} {Q : Exit → Act → World → Prop}
    (hK : ∀ v w' F' r', After w0 S R0 D H F r nx eff F' r' w' v → KK (a.put o.dst v) w') : o.wp P a w KK Q :=
  op_wpP hT hk hs hm hnx h he hi (.inl hnp) (fun _ => hK) fun x p w' F' r' hx _ => by
    unfold panE at hnp
    rw [hx] at hnp
    simp only [isPan_panA] at hnp
    cases hnp
end
end Go.Sz
namespace Go.Sz
open Go Go.RowKit Go.Sy
set_option linter.unusedVariables false
set_option linter.unusedSimpArgs false
set_option linter.constructorNameAsVariable false
abbrev Env := List (Nat × AV)
abbrev Hp := List (Nat × Ob)
def look (l : Env) (j : Nat) : Option AV :=
  List.rec (motive := fun _ => Option AV) none (fun x _ ih => Bool.rec (motive := fun _ => Option AV) ih (some x.2) (Nat.beq x.1 j)) l
def getH (l : Hp) (j : Nat) : Option Ob :=
  List.rec (motive := fun _ => Option Ob) none (fun x _ ih => Bool.rec (motive := fun _ => Option Ob) ih (some x.2) (Nat.beq x.1 j)) l
theorem look_nil {j : Nat} : look [] j = none := rfl
theorem look_cons' {k : Nat} {av : AV} {l : Env} {j : Nat} : look ((k, av) :: l) j = bif Nat.beq k j then some av else look l j := by
  show Bool.rec (motive := fun _ => Option AV) (look l j) (some av) (Nat.beq k j) = _
  cases Nat.beq k j <;> rfl
theorem getH_nil {j : Nat} : getH [] j = none := rfl
theorem getH_cons {k : Nat} {ob : Ob} {l : Hp} {j : Nat} : getH ((k, ob) :: l) j = bif Nat.beq k j then some ob else getH l j := by
  show Bool.rec (motive := fun _ => Option Ob) (getH l j) (some ob) (Nat.beq k j) = _
  cases Nat.beq k j <;> rfl
theorem bif_beq {α : Type} (i j : Nat) (x y : α) : (bif Nat.beq i j then x else y) = if i = j then x else y := by
  by_cases h : i = j
  · subst h; simp
  · have : Nat.beq i j = false := by
      cases hb : Nat.beq i j with
      | false => rfl
      | true => exact absurd (Nat.eq_of_beq_eq_true hb) h
    rw [this, if_neg h]; rfl
theorem updH_getH : ∀ (ups hp : Hp), updH ups (getH hp) = getH (ups ++ hp)
  | [], _ => rfl
  | (k, ob) :: l, hp => by funext j; simp only [updH, List.cons_append, getH_cons, updH_getH l hp]
structure St where
  env : Env
  hp : Hp
  nx : Nat
structure Conc (ds : List Deferred) (N : Nat) (w0 : World) (S : Nat → Nat → Prop) (R0 : Frag) (m : Nat) (r0 : Loc) (st : St) (F : Frag) (r : Loc) (a : Act) (w : World) : Prop where
  defers : a.defers = ds
  size : a.tmps.size = N
  env : EnvR F r (look st.env) a
  inn : EnvIn (fun j => j < st.nx) (look st.env)
  mem : Mem w0 S R0 (fun j => j < st.nx) (getH st.hp) F r w
  par : ∀ j, j < m → r j = r0 j
  mle : m ≤ st.nx
def putE (dst : Option Tmp) (res : Option AV) (env : Env) : Env := match dst, res with
  | some d, some av => (d, av) :: env
  | _, _ => env
def dstOk (N : Nat) (dst : Option Tmp) : Bool := match dst with
  | some d => Nat.blt d N
  | none => true
def effOk (dst : Option Tmp) (eff : Eff) : Bool := match eff.res with
  | some v => (isPan v).isNone
  | none => dst.isNone
theorem effOk_pan {dst : Option Tmp} {eff : Eff} (h : effOk dst eff = true) : panE eff = none := by
  unfold effOk at h
  unfold panE
  cases hr : eff.res with
  | none => rfl
  | some v => rw [hr] at h; simpa using h
theorem look_cons (d : Nat) (av : AV) (env : Env) (k : Nat) : look ((d, av) :: env) k = if d = k then some av else look env k := by
  simp only [look_cons', bif_beq]
theorem put_size (a : Act) (d : Option Tmp) (v : Value) : (a.put d v).tmps.size = a.tmps.size := by cases d <;> simp [Act.put]
theorem put_defers (a : Act) (d : Option Tmp) (v : Value) : (a.put d v).defers = a.defers := by cases d <;> rfl
def isD (dst : Option Tmp) (k : Nat) : Bool := match dst with
  | some d => Nat.beq d k
  | none => false
theorem EnvR.put {F : Frag} {r : Loc} {E E' : Ef} {a : Act} {N : Nat} (h : EnvR F r E a) (hN : a.tmps.size = N) {dst : Option Tmp} (hd : dstOk N dst = true) {eff : Eff} (he : effOk dst eff = true) {v : Value}
    (hv : ∀ av, eff.res = some av → av.rep F r v) (hE : ∀ k, E' k = bif isD dst k then eff.res else E k) : EnvR F r E' (a.put dst v) := by
  intro k x hx
  rw [hE] at hx
  cases dst with
  | none => exact h k x hx
  | some d =>
    simp only [isD, bif_beq] at hx
    have hlt : d < N := Nat.le_of_ble_eq_true hd
    simp only [Act.put]
    by_cases hdk : d = k
    · subst hdk
      rw [if_pos rfl] at hx
      exact ⟨v, by rw [Array.getElem?_setIfInBounds_self_of_lt (by rw [hN]; exact hlt)], hv x hx⟩
    · rw [if_neg hdk] at hx
      rw [Array.getElem?_setIfInBounds_ne hdk]
      exact h k x hx
theorem EnvR.to {F F' : Frag} {r r' : Loc} {D : Nat → Prop} {E : Ef} {a : Act} (h : EnvR F r E a) (hi : EnvIn D E) (hF : F.le F') (hr : Loc.agree D r r') : EnvR F' r' E a := fun k av hk => by
  obtain ⟨v, h1, h2⟩ := h k av hk
  exact ⟨v, h1, AV.rep_to hF hr (hi k av hk) h2⟩
theorem isD_look (dst : Option Tmp) (eff : Eff) (env : Env) (he : effOk dst eff = true) (k : Nat) : look (putE dst eff.res env) k = bif isD dst k then eff.res else look env k := by
  cases dst with
  | none => cases hr : eff.res <;> rfl
  | some d =>
    cases hr : eff.res with
    | none => simp [effOk, hr] at he
    | some av => simp only [putE, look_cons', isD]
def skipEff : Eff := ⟨some (.t []), [], 0⟩
theorem undef_rep (F : Frag) (r : Loc) : (AV.t []).rep F r undef := ⟨[], trivial, rfl⟩
/-! ### Guards -/
def GuardIs (ops : Array Oper) (o : Oper) (E : Ef) (b : Bool) : Prop := match o.guard with
  | none => b = true
  | some (g, want) => ∃ t, (ops[g]?).bind (·.dst) = some t ∧ ((∃ c, E t = some (AV.b c) ∧ b = (c == want)) ∨ (∃ i c, E t = some (.p (.one (.y i (.v (.bool c))))) ∧ b = (c == want)) ∨ (∃ l, E t = some (.t l) ∧ b = false))
theorem GuardIs.wanted {ops : Array Oper} {o : Oper} {E : Ef} {b : Bool} (h : GuardIs ops o E b) {F : Frag} {r : Loc} {a : Act} (he : EnvR F r E a) : Region.wanted o (yielded ops a.tmps) = b := by
  unfold GuardIs at h
  unfold Region.wanted
  split at h
  · rename_i hg
    rw [hg, h]
  · rename_i g want hg
    rw [hg]
    obtain ⟨t, ht, ⟨c, hc, rfl⟩ | ⟨i, c, hc, rfl⟩ | ⟨l, hc, rfl⟩⟩ := h
    · obtain ⟨v, h1, h2⟩ := he t _ hc
      simp only [AV.rep, Part.rep, Cell.rep] at h2
      subst h2
      have hy : yielded ops a.tmps g = some c := by unfold yielded; rw [ht]; simp [h1]
      simp [hy]
    · obtain ⟨v, h1, h2⟩ := he t _ hc
      simp only [AV.rep, Part.rep, Cell.rep, PV.val] at h2
      subst h2
      have hy : yielded ops a.tmps g = some c := by unfold yielded; rw [ht]; simp [h1]
      simp [hy]
    · obtain ⟨v, h1, vs, _, h2⟩ := he t _ hc
      subst h2
      have hy : yielded ops a.tmps g = none := by unfold yielded; rw [ht]; simp [h1]
      simp [hy]
def guardT {α : Type} (ops : Array Oper) (o : Oper) (E : Ef) (yes no : Option (Nat × Bool) → Tree α) : Tree α := match o.guard with
  | none => yes none
  | some (g, want) => match (ops[g]?).bind (·.dst) with
    | none => .fail
    | some t => match E t with
      | some (.p (.one (.v (.bool c)))) => .ite (bif want then c else !c) (yes (some (t, want))) (no (some (t, !want)))
      | some (.t _) => no none
      | some (.p (.one (.y _ (.v (.bool c))))) => .sy (bif want then c else !c) (yes none) (no none)
      | _ => .fail
theorem guardT_spec {α : Type} {ops : Array Oper} {o : Oper} {E : Ef} {yes no : Option (Nat × Bool) → Tree α} {x : α} (h : (guardT ops o E yes no).run = some x) :
    ∃ b m, GuardIs ops o E b ∧ (∀ t c, m = some (t, c) → E t = some (AV.b c)) ∧ ((b = true ∧ (yes m).run = some x) ∨ (b = false ∧ (no m).run = some x)) := by
  unfold guardT at h
  unfold GuardIs
  split at h
  · exact ⟨true, none, rfl, (fun _ _ e => by cases e), .inl ⟨rfl, h⟩⟩
  · rename_i g want hg
    split at h
    · cases h
    · rename_i t ht
      split at h
      · rename_i c hc
        simp only [Tree.run] at h
        cases want <;> cases c <;> simp only [cond_true, cond_false, Bool.not_true, Bool.not_false] at h
        · exact ⟨true, _, ⟨t, ht, .inl ⟨_, hc, rfl⟩⟩, fun _ _ e => by injection e with e; injection e with e1 e2; subst e1 e2; exact hc, .inl ⟨rfl, h⟩⟩
        · exact ⟨false, _, ⟨t, ht, .inl ⟨_, hc, rfl⟩⟩, fun _ _ e => by injection e with e; injection e with e1 e2; subst e1 e2; exact hc, .inr ⟨rfl, h⟩⟩
        · exact ⟨false, _, ⟨t, ht, .inl ⟨_, hc, rfl⟩⟩, fun _ _ e => by injection e with e; injection e with e1 e2; subst e1 e2; exact hc, .inr ⟨rfl, h⟩⟩
        · exact ⟨true, _, ⟨t, ht, .inl ⟨_, hc, rfl⟩⟩, fun _ _ e => by injection e with e; injection e with e1 e2; subst e1 e2; exact hc, .inl ⟨rfl, h⟩⟩
      · rename_i l hc
        exact ⟨false, none, ⟨t, ht, .inr (.inr ⟨_, hc, rfl⟩)⟩, (fun _ _ e => by cases e), .inr ⟨rfl, h⟩⟩
      · rename_i i c hc
        simp only [Tree.run] at h
        cases want <;> cases c <;> simp only [cond_true, cond_false, Bool.not_true, Bool.not_false] at h
        · exact ⟨true, none, ⟨t, ht, .inr (.inl ⟨_, _, hc, rfl⟩)⟩, (fun _ _ e => by cases e), .inl ⟨rfl, h⟩⟩
        · exact ⟨false, none, ⟨t, ht, .inr (.inl ⟨_, _, hc, rfl⟩)⟩, (fun _ _ e => by cases e), .inr ⟨rfl, h⟩⟩
        · exact ⟨false, none, ⟨t, ht, .inr (.inl ⟨_, _, hc, rfl⟩)⟩, (fun _ _ e => by cases e), .inr ⟨rfl, h⟩⟩
        · exact ⟨true, none, ⟨t, ht, .inr (.inl ⟨_, _, hc, rfl⟩)⟩, (fun _ _ e => by cases e), .inl ⟨rfl, h⟩⟩
      · cases h
def noteE (m : Option (Nat × Bool)) (env : Env) : Env := match m with
  | some (t, c) => (t, AV.b c) :: env
  | none => env
theorem noteE_look {m : Option (Nat × Bool)} {env : Env} (h : ∀ t c, m = some (t, c) → look env t = some (AV.b c)) : look (noteE m env) = look env := by
  cases m with
  | none => rfl
  | some x =>
    obtain ⟨t, c⟩ := x
    funext k
    simp only [noteE, look_cons]
    split
    · rename_i e; subst e; exact (h t c rfl).symm
    · rfl
/-! ### Plain regions -/
def doEff (N : Nat) (o : Oper) (st : St) (env : Env) (eff : Eff) : Tree St :=
  bif dstOk N o.dst && effOk o.dst eff then .ret ⟨putE o.dst eff.res env, eff.ups ++ st.hp, st.nx + eff.nn⟩ else .fail
def stepT (P : Program) (T : Tab) (N : Nat) (ops : Array Oper) (o : Oper) (st : St) : Tree St := guardT ops o (look st.env)
      (fun m => (opT P T (getH st.hp) (look (noteE m st.env)) st.nx o).bind fun eff => doEff N o st (noteE m st.env) eff)
      (fun m => doEff N o st (noteE m st.env) skipEff)
def convPair (P : Program) (o o2 : Oper) : Bool := match o.op, o2.op with
  | .buildSlice t _ _, .convert src dst (.tmp x) => match o.dst, o.guard, o2.guard, P.underlying t with
    | some d, none, none, some (.slice e) => Nat.beq x d && (Nat.beq src t && (Nat.beq dst t && isBytes P e))
    | _, _, _, _ => false
  | _, _ => false
def noYO (E : Ef) (o : Oper) : Bool := match o.op with
  | .buildSlice _ _ parts => (match evalParts E parts.toList with
    | some ps => !yPs ps
    | none => true)
  | _ => true
def convPairS (P : Program) (E : Ef) (o o2 : Oper) : Bool := convPair P o o2 && noYO E o
def sameT (N : Nat) (o o2 : Oper) (st : St) : Tree St := match o.dst with
  | some d => match look st.env d with
    | some av => doEff N o2 st st.env ⟨some av, [], 0⟩
    | none => .fail
  | none => .fail
def stepP (P : Program) (T : Tab) (N : Nat) (ops : Array Oper) (o : Oper) (st : St) : Tree (Option Part × St) := guardT ops o (look st.env)
      (fun m => (opT P T (getH st.hp) (look (noteE m st.env)) st.nx o).bind fun eff => match panE eff with
        | none => (doEff N o st (noteE m st.env) eff).bind fun st' => .ret (none, st')
        | some x => bif mayPan o.op then .ret (some x, ⟨noteE m st.env, eff.ups ++ st.hp, st.nx + eff.nn⟩) else .fail)
      (fun m => (doEff N o st (noteE m st.env) skipEff).bind fun st' => .ret (none, st'))
def seqP (P : Program) (T : Tab) (N : Nat) (ops : Array Oper) : List Oper → St → Tree (Option Part × St)
  | [], st => .ret (none, st)
  | [o], st => stepP P T N ops o st
  | o :: o2 :: l, st => bif convPairS P (look st.env) o o2 then (stepT P T N ops o st).bind fun st1 => (sameT N o o2 st1).bind (seqP P T N ops l)
    else (stepP P T N ops o st).bind fun r => match r.1 with
      | none => seqP P T N ops (o2 :: l) r.2
      | some x => .ret (some x, r.2)
theorem conv_same {P : Program} {t e : TypeId} (ht : P.underlying t = some (.slice e)) (he : P.underlying e = some (.int .u8)) (w : World) (arr : Array Value) (n : Nat) :
    (convert t t (.slice (some ⟨w.heap.size, 0, none⟩) n n)).run P (w.alloc (.cells arr e)) = .ok (.slice (some ⟨w.heap.size, 0, none⟩) n n) (w.alloc (.cells arr e (arr.size, arr.size + 1))) := by
  have hsh : (w.alloc (.cells arr e)).shape? w.heap.size = some (e, arr.size) := by
    simp [World.shape?, World.alloc, -World.alloc_eq]
  have hfr : (w.alloc (.cells arr e)).freeze ⟨w.heap.size, arr.size, none⟩ 1 = w.alloc (.cells arr e (arr.size, arr.size + 1)) := by
    simp only [World.freeze, World.alloc]
    rw [if_neg (by decide)]
    congr 1
    apply Array.ext
    · simp
    · intro i h1 h2
      rw [Array.getElem_modify]
      by_cases hi : w.heap.size = i
      · subst hi; simp
      · rw [if_neg hi]
        have : i < w.heap.size := by simp at h2; omega
        rw [Array.getElem_push_lt this, Array.getElem_push_lt this]
  simp [convert, run_underlying ht, run_underlying he, markStringish, hsh, Result.andThen, hfr]
section
variable {P : Program} {T : Tab} {ds : List Deferred} {N : Nat} {w0 : World} {S : Nat → Nat → Prop} {R0 : Frag} {m : Nat} {r0 : Loc}
theorem Conc.step {st : St} {F F' : Frag} {r r' : Loc} {a : Act} {w w' : World} {v : Value} (h : Conc ds N w0 S R0 m r0 st F r a w) {env : Env} (henv : look env = look st.env) {o : Oper} {eff : Eff} {st' : St} (hd : (doEff N o st env eff).run = some st')
    (ha : After w0 S R0 (fun j => j < st.nx) (getH st.hp) F r st.nx eff F' r' w' v) : Conc ds N w0 S R0 m r0 st' F' r' (a.put o.dst v) w' := by
  unfold doEff at hd
  cases hb : (dstOk N o.dst && effOk o.dst eff) with
  | false => rw [hb] at hd; cases hd
  | true =>
    rw [hb] at hd
    simp only [cond_true, Tree.run, Option.some.injEq] at hd; subst hd
    simp only [Bool.and_eq_true] at hb
    have hD : ∀ j, More (fun j => j < st.nx) st.nx eff.nn j → j < st.nx + eff.nn := fun j hj => by
      rcases hj with hj | hj <;> omega
    have hlook : ∀ k, look (putE o.dst eff.res env) k = bif isD o.dst k then eff.res else look st.env k := fun k => by
      rw [isD_look o.dst eff env hb.2 k, henv]
    refine ⟨by rw [put_defers]; exact h.defers, by rw [put_size]; exact h.size, ?_, ?_, ?_, fun j hj => by rw [ha.agree j (Nat.lt_of_lt_of_le hj h.mle)]; exact h.par j hj, Nat.le_trans h.mle (Nat.le_add_right _ _)⟩
    · exact (h.env.to h.inn ha.le ha.agree).put h.size hb.1 hb.2 (fun av hav => (ha.res av hav).1) hlook
    · intro k av hk
      rw [hlook] at hk
      cases hi : isD o.dst k with
      | true => rw [hi] at hk; exact AV.inn_mono hD (ha.res av hk).2
      | false => rw [hi] at hk; exact AV.inn_mono (fun j hj => Nat.lt_of_lt_of_le hj (Nat.le_add_right _ _)) (h.inn k av hk)
    · have := ha.mem.monoD hD
      rw [updH_getH] at this
      exact this
theorem Conc.skip {st : St} {F : Frag} {r : Loc} {a : Act} {w : World} (h : Conc ds N w0 S R0 m r0 st F r a w) {env : Env} (henv : look env = look st.env) {o : Oper} {st' : St} (hd : (doEff N o st env skipEff).run = some st') :
    Conc ds N w0 S R0 m r0 st' F r (a.put o.dst undef) w := by
  refine h.step henv hd ⟨fun _ _ => rfl, Frag.le_refl F, h.mem.monoD (fun j hj => .inl hj), fun av hav => ?_⟩
  injection hav with hav; subst hav
  exact ⟨undef_rep F r, fun x hx => by cases hx⟩
theorem pair_wp {ops : Array Oper} {Q : Exit → Act → World → Prop} {st st1 st2 : St} {o o2 : Oper} {F : Frag} {r : Loc} {a : Act} {w : World} (hp : convPairS P (look st.env) o o2 = true) (h1 : (stepT P T N ops o st).run = some st1) (h2 : (sameT N o o2 st1).run = some st2)
    (hc : Conc ds N w0 S R0 m r0 st F r a w) {KK : Act → World → Prop} (next : ∀ F' r' a' w', Conc ds N w0 S R0 m r0 st2 F' r' a' w' → KK a' w') :
    Region.wanted o (yielded ops a.tmps) = true ∧ o.wp P a w (fun a1 w1 => Region.wanted o2 (yielded ops a1.tmps) = true ∧ o2.wp P a1 w1 KK Q) Q := by
  obtain ⟨hp, hnoY⟩ := Bool.and_eq_true_iff.1 hp
  unfold convPair at hp
  split at hp
  · rename_i t len parts src dst x ho ho2
    split at hp
    · rename_i d e hd hg hg2 ht
      simp only [Bool.and_eq_true] at hp
      obtain ⟨q1, q2, q3, q4⟩ := hp
      have q1 := Nat.eq_of_beq_eq_true q1
      have q2 := Nat.eq_of_beq_eq_true q2
      have q3 := Nat.eq_of_beq_eq_true q3
      subst q1 q2 q3
      have he8 : P.underlying e = some (.int .u8) := isBytes_spec q4
      unfold stepT guardT at h1
      rw [hg] at h1
      simp only [noteE] at h1
      obtain ⟨eff, he, hde⟩ := Tree.run_bind_some h1
      have hmem : (memT P (getH st.hp) (look st.env) st.nx o).run = some eff := by
        have hmo : isMapOp (getH st.hp) (look st.env) o = false := by unfold isMapOp; rw [ho]
        have h0 : (opT0 P T (getH st.hp) (look st.env) st.nx o).run = some eff := by
          clear hde
          rw [opT_run0 (by rw [ho]; rfl) (by rw [ho]; rfl) (by rw [ho]; rfl)] at he
          unfold opT1 at he
          cases hl : T.lit with
          | false => rw [hl] at he; exact he
          | true =>
            rw [hl] at he
            have hln : litAll P (getH st.hp) (look st.env) st.nx o = none := by
              have hu8 : litU P (getH st.hp) (look st.env) st.nx o = none := by
                unfold litU
                rw [ho]
                simp only []
                split
                · rename_i ps hps
                  have hy0 : yPs ps = false := by
                    unfold noYO at hnoY
                    rw [ho] at hnoY
                    simp only [hps] at hnoY
                    simpa using hnoY
                  unfold litBuildY
                  rw [ht]
                  simp only [hy0, cond_false]
                  split
                  · split
                    · rfl
                    · rfl
                  · rfl
                · rfl
              unfold litAll
              rw [hu8]
              unfold litT
              rw [ho]
              simp only []
              split
              · have hle : litElem P e = false := by
                  unfold litElem
                  simp only [flatT, he8]
                  rfl
                unfold litBuild
                rw [ht]
                simp only [hle, cond_false]
                split
                · split
                  · rfl
                  · rfl
                · rfl
              · rfl
            rw [hln] at he
            exact he
        unfold opT0 at h0
        rw [hmo, ho] at h0
        exact h0
      unfold memT at hmem
      rw [ho] at hmem
      simp only [] at hmem
      split at hmem
      · rename_i ps hps
        obtain ⟨v, arr, e', n, r', F', g0, gv, g1, gres, gnn, g2⟩ := buildSliceT_run2 (fun j ob h => h) hc.mem (fun j h1 _ h2 => Nat.lt_irrefl _ (Nat.lt_of_lt_of_le h2 h1)) hmem (evalParts_rep hc.env hps) (evalParts_inn hc.inn hps)
        rw [ht] at g0
        injection g0 with g0
        injection g0 with g0
        subst g0
        have h3 : (parts.map fun (p : Nat × Operand) => (p.1, a.eval p.2)) = (parts.toList.map fun (p : Nat × Operand) => (p.1, a.eval p.2)).toArray := by
          apply Array.ext'; simp
        rw [← h3] at g1
        have hrun : (execOp a.eval o).run P w = .ok (.value v) (w.alloc (.cells arr e)) := by
          simp only [execOp, ho, Sem.run_bind]
          exact (congrArg (fun y => Result.andThen y _) g1).trans rfl
        have hc1 : Conc ds N w0 S R0 m r0 st1 F' r' (a.put o.dst v) (w.alloc (.cells arr e (arr.size, arr.size + 1))) := hc.step rfl hde (g2 (arr.size, arr.size + 1) (.inl (Nat.le_refl _)))
        unfold sameT at h2
        rw [hd] at h2
        simp only [] at h2
        split at h2
        · rename_i av hav
          obtain ⟨u, hu1, hu2⟩ := hc1.env x av hav
          have hput : (a.put o.dst v).tmps[x]? = some v := by
            have hlt : x < a.tmps.size := by
              have hdk : dstOk N o.dst = true := by
                unfold doEff at hde
                cases hb : (dstOk N o.dst && effOk o.dst eff) with
                | false => rw [hb] at hde; cases hde
                | true => rw [Bool.and_eq_true] at hb; exact hb.1
              rw [hd] at hdk
              rw [hc.size]
              exact Nat.le_of_ble_eq_true hdk
            rw [hd]
            simp [Act.put, hlt]
          have huv : u = v := by rw [hput] at hu1; injection hu1 with hu1; exact hu1.symm
          subst huv
          have hc2 : Conc ds N w0 S R0 m r0 st2 F' r' ((a.put o.dst u).put o2.dst u) (w.alloc (.cells arr e (arr.size, arr.size + 1))) := by
            refine hc1.step rfl h2 (after_same rfl hc1.mem fun av' hav' => ?_)
            injection hav' with hav'; subst hav'
            exact ⟨hu2, hc1.inn x _ hav⟩
          refine ⟨by unfold Region.wanted; rw [hg], ?_⟩
          unfold Oper.wp
          rw [hrun, Oper.upon_value]
          refine ⟨by unfold Region.wanted; rw [hg2], ?_⟩
          show o2.upon P (a.put o.dst u) KK Q _
          have hev : (a.put o.dst u).eval (.tmp x) = u := by simp [Act.eval, hput]
          have hrun2 : (execOp (a.put o.dst u).eval o2).run P (w.alloc (.cells arr e)) = .ok (.value u) (w.alloc (.cells arr e (arr.size, arr.size + 1))) := by
            simp only [execOp, ho2, Sem.run_bind, hev]
            rw [gv]
            exact (congrArg (fun y => Result.andThen y _) (conv_same ht he8 w arr n)).trans rfl
          rw [hrun2, Oper.upon_value]
          exact next F' r' _ _ hc2
        · cases h2
      · cases hmem
    · cases hp
  · cases hp
def QP (ds : List Deferred) (N : Nat) (w0 : World) (S : Nat → Nat → Prop) (R0 : Frag) (m : Nat) (r0 : Loc) (Q : Exit → Act → World → Prop) (x : Option Part) (st : St) : Prop := match x with
  | none => ∀ F r a w, Conc ds N w0 S R0 m r0 st F r a w → Q .normal a w
  | some q => ∀ F r a w p, Conc ds N w0 S R0 m r0 st F r a w → q.rep F r p → q.inn (fun j => j < st.nx) → Q (.panic [{ v := p, recovered := false }]) a w
theorem Conc.keep {st : St} {F F' : Frag} {r r' : Loc} {a : Act} {w w' : World} {v : Value} (h : Conc ds N w0 S R0 m r0 st F r a w) {env : Env} (henv : look env = look st.env) {eff : Eff}
    (ha : After w0 S R0 (fun j => j < st.nx) (getH st.hp) F r st.nx eff F' r' w' v) : Conc ds N w0 S R0 m r0 ⟨env, eff.ups ++ st.hp, st.nx + eff.nn⟩ F' r' a w' := by
  have hD : ∀ j, More (fun j => j < st.nx) st.nx eff.nn j → j < st.nx + eff.nn := fun j hj => by
    rcases hj with hj | hj <;> omega
  refine ⟨h.defers, h.size, ?_, ?_, ?_, fun j hj => by rw [ha.agree j (Nat.lt_of_lt_of_le hj h.mle)]; exact h.par j hj, Nat.le_trans h.mle (Nat.le_add_right _ _)⟩
  · rw [henv]; exact h.env.to h.inn ha.le ha.agree
  · intro k av hk
    rw [henv] at hk
    exact AV.inn_mono (fun j hj => Nat.lt_of_lt_of_le hj (Nat.le_add_right _ _)) (h.inn k av hk)
  · have := ha.mem.monoD hD
    rw [updH_getH] at this
    exact this
theorem stepP_wp {K : Know} (hT : TOk K P T) (hk : K.ok R0) {ops : Array Oper} {Q : Exit → Act → World → Prop} {st st1 : St} {x : Option Part} {o : Oper} {F : Frag} {r : Loc} {a : Act} {w : World} (h1 : (stepP P T N ops o st).run = some (x, st1)) (hc : Conc ds N w0 S R0 m r0 st F r a w)
    {KK : Act → World → Prop} (next : x = none → ∀ F' r' a' w', Conc ds N w0 S R0 m r0 st1 F' r' a' w' → KK a' w')
    (pan : ∀ q, x = some q → ∀ F r a w p, Conc ds N w0 S R0 m r0 st1 F r a w → q.rep F r p → q.inn (fun j => j < st1.nx) → Q (.panic [{ v := p, recovered := false }]) a w) :
    if Region.wanted o (yielded ops a.tmps) then o.wp P a w KK Q ∨ (o.asks P a w ∧ LetsOut Q) else KK (a.put o.dst undef) w := by
  unfold stepP at h1
  obtain ⟨b, m, hg, hm, hcase⟩ := guardT_spec h1
  rw [hg.wanted hc.env]
  have hn := noteE_look hm
  have hlt : ∀ (eff : Eff) (j : Nat), st.nx ≤ j → j < st.nx + eff.nn → ¬ j < st.nx := fun _ j h1 _ h2 => Nat.lt_irrefl _ (Nat.lt_of_lt_of_le h2 h1)
  rcases hcase with ⟨rfl, hy⟩ | ⟨rfl, hy⟩
  · rw [if_pos rfl]
    obtain ⟨eff, he, hd⟩ := Tree.run_bind_some hy
    rw [hn] at he
    split at hd
    · rename_i hnp
      obtain ⟨st2, hd2, h2⟩ := Tree.run_bind_some hd
      simp only [Tree.run, Option.some.injEq, Prod.mk.injEq] at h2
      obtain ⟨rfl, rfl⟩ := h2
      exact .inl (op_wp hT hk (fun j ob h => h) hc.mem (hlt eff) he hc.env hc.inn hnp fun v w' F' r' ha => next rfl F' r' _ w' (hc.step hn hd2 ha))
    · rename_i y hpy
      cases hmy : mayPan o.op with
      | false => rw [hmy] at hd; cases hd
      | true =>
        rw [hmy] at hd
        simp only [cond_true, Tree.run, Option.some.injEq, Prod.mk.injEq] at hd
        obtain ⟨rfl, rfl⟩ := hd
        refine .inl (op_wpP hT hk (fun j ob h => h) hc.mem (hlt eff) he hc.env hc.inn (.inr hmy) (fun hnp => ?_) fun x p w' F' r' hx ha => ?_)
        · rw [hpy] at hnp; cases hnp
        · have hxy : x = y := by
            unfold panE at hpy
            rw [hx] at hpy
            simp only [isPan_panA, Option.some.injEq] at hpy
            exact hpy
          subst hxy
          obtain ⟨hr, hi⟩ := ha.res _ hx
          obtain ⟨p', hp', hr'⟩ := panA_rep hr
          have : p = p' := by
            unfold panV at hp'
            injection hp' with hp'
            have := congrArg (fun a : Array Value => a[3]?) hp'
            simpa using this
          subst this
          refine pan x rfl F' r' a w' p (hc.keep hn ha) hr' (Part.inn_mono (fun j hj => ?_) (panA_inn.1 hi : x.inn _))
          rcases hj with hj | hj
          · exact Nat.lt_of_lt_of_le hj (Nat.le_add_right _ _)
          · exact hj.2
  · rw [if_neg (by simp)]
    obtain ⟨st2, hd, h2⟩ := Tree.run_bind_some hy
    simp only [Tree.run, Option.some.injEq, Prod.mk.injEq] at h2
    obtain ⟨rfl, rfl⟩ := h2
    exact next rfl F r _ w (hc.skip hn hd)
theorem seqP_wp {K : Know} (hT : TOk K P T) (hk : K.ok R0) {ops : Array Oper} {Q : Exit → Act → World → Prop} {x : Option Part} {st' : St} (hQ : QP ds N w0 S R0 m r0 Q x st') :
    ∀ (rest pre : List Oper) (st : St) (F : Frag) (r : Loc) (a : Act) (w : World), ops.toList = pre ++ rest → (seqP P T N ops rest st).run = some (x, st') → Conc ds N w0 S R0 m r0 st F r a w →
      wpOps P ops Q (List.range' pre.length rest.length) a w
  | [], pre, st, F, r, a, w, _, h, hc => by
    simp only [seqP, Tree.run, Option.some.injEq, Prod.mk.injEq] at h
    obtain ⟨rfl, rfl⟩ := h
    simpa [wpOps] using hQ F r a w hc
  | [o], pre, st, F, r, a, w, ho, h, hc => by
    simp only [seqP] at h
    have hget : ops[pre.length]? = some o := by
      rw [← Array.getElem?_toList, ho]; simp
    rw [List.length_cons, List.range'_succ, wpOps_cons]
    unfold wpOp
    rw [hget]
    simp only []
    refine stepP_wp hT hk h hc (fun hx F' r' a' w' hc' => ?_) (fun q hx => ?_)
    · subst hx; simpa [wpOps] using hQ F' r' a' w' hc'
    · subst hx; exact hQ
  | o :: o2 :: l, pre, st, F, r, a, w, ho, h, hc => by
    simp only [seqP] at h
    have hget : ops[pre.length]? = some o := by
      rw [← Array.getElem?_toList, ho]; simp
    have hget2 : ops[pre.length + 1]? = some o2 := by
      rw [← Array.getElem?_toList, ho]; simp
    cases hp : convPairS P (look st.env) o o2 with
    | true =>
      rw [hp] at h
      simp only [cond_true] at h
      obtain ⟨st1, h1, h2⟩ := Tree.run_bind_some h
      obtain ⟨st2, h2, h3⟩ := Tree.run_bind_some h2
      have next : ∀ F' r' a' w', Conc ds N w0 S R0 m r0 st2 F' r' a' w' → wpOps P ops Q (List.range' (pre.length + 1 + 1) l.length) a' w' := fun F' r' a' w' hc' => by
        have := seqP_wp hT hk hQ l (pre ++ [o, o2]) st2 F' r' a' w' (by rw [ho]; simp) h3 hc'
        simpa using this
      obtain ⟨w1, w2⟩ := pair_wp (Q := Q) hp h1 h2 hc next
      rw [List.length_cons, List.range'_succ, wpOps_cons]
      unfold wpOp
      rw [hget]
      simp only []
      rw [w1, if_pos rfl]
      refine .inl (Oper.wp_mono (fun a1 w1' hw => ?_) w2)
      rw [List.length_cons, List.range'_succ, wpOps_cons]
      unfold wpOp
      rw [hget2]
      simp only []
      rw [hw.1, if_pos rfl]
      exact .inl hw.2
    | false =>
      rw [hp] at h
      simp only [cond_false] at h
      obtain ⟨⟨x1, st1⟩, h1, h2⟩ := Tree.run_bind_some h
      rw [List.length_cons, List.range'_succ, wpOps_cons]
      unfold wpOp
      rw [hget]
      simp only []
      refine stepP_wp hT hk h1 hc (fun hx F' r' a' w' hc' => ?_) (fun q hx => ?_)
      · subst hx
        have := seqP_wp hT hk hQ (o2 :: l) (pre ++ [o]) st1 F' r' a' w' (by rw [ho]; simp) h2 hc'
        simpa using this
      · subst hx
        simp only [Tree.run, Option.some.injEq, Prod.mk.injEq] at h2
        obtain ⟨rfl, rfl⟩ := h2
        exact hQ
end
end Go.Sz
