/-
  A symbolic machine for one call, with rows of any length: regions that draw their order, evaluated.
-/
import Derived.Test.YtoljppjibhnndaaSzY
namespace Go.Sz
open Go Go.RowKit Go.Sy
set_option linter.unusedVariables false
set_option linter.unusedSimpArgs false
set_option linter.constructorNameAsVariable false

/-! ### What an operation looks at -/
def fstL : List (Nat × Bool) → List Nat → List Nat
  | [], acc => acc
  | (j, _) :: l, acc => bif memN j acc then fstL l acc else fstL l (j :: acc)

def refsOs (E : Ef) : List Operand → List Nat → List Nat
  | [], acc => acc
  | x :: l, acc => match evalO E x with
    | some av => refsOs E l (fstL (refsA av) acc)
    | none => refsOs E l acc

def reach (H : Hf) : Nat → List Nat → List Nat → List Nat
  | 0, _, s => s
  | _ + 1, [], s => s
  | n + 1, j :: l, s => bif memN j s then reach H n l s else match H j with
    | some (.lit cs) => reach H n (fstL (refsL cs) l) (j :: s)
    | _ => reach H n l (j :: s)

def isPlainPtr (E : Ef) (x : Operand) : Bool := match evalO E x with
  | some (.p (.one (.p _ _))) => true
  | some (.p (.one (.e _ _ _ _ _ _))) => true
  | _ => false

def jsOf (H : Hf) (E : Ef) (o : Oper) : List Nat := match o.op with
  | .alloc _ => []
  | .box _ _ => []
  | .move _ => []
  | .assign _ => []
  | .pick .. => []
  | .nilCheck _ => []
  | .fieldAddr .. => []
  | .field .. => []
  | .binOp .. => []
  | .unOp .. => []
  | .extract .. => []
  | .build .. => []
  | .index .. => []
  | .makeFunc .. => []
  | .load _ x => refsOs E [x] []
  | .store _ x y => bif isPlainPtr E x then refsOs E [x] [] else reach H 200 (refsOs E [x, y] []) []
  | .call c => reach H 200 (refsOs E o.op.operands.toList []) []
  | .makeMap .. => []
  | .mapUpdate .. => reach H 200 (refsOs E o.op.operands.toList []) []
  | .insert .. => reach H 200 (refsOs E o.op.operands.toList []) []
  | .buildSlice .. => reach H 200 (refsOs E o.op.operands.toList []) []
  | .convert .. => reach H 200 (refsOs E o.op.operands.toList []) []
  | _ => refsOs E o.op.operands.toList []

def nxt (nx0 : Nat) : List Ev → Nat
  | [] => nx0
  | ev :: _ => ev.nx + ev.eff.nn

def addN (x : Nat) (l : List Nat) : List Nat := bif memN x l then l else x :: l
def addAll : List Nat → List Nat → List Nat
  | [], l => l
  | x :: a, l => addN x (addAll a l)
def anOf (d : List Nat) : List Ev → List Nat → List Nat
  | [], acc => addAll d acc
  | q :: l, acc => bif memN q.i d then anOf d l (addAll q.an acc) else anOf d l acc

def apartAll (an : List Nat) (p : Ev) : List Ev → Bool
  | [] => true
  | q :: l => (memN q.i an || !clash q p) && apartAll an p l

def allLt (n : Nat) : List Nat → Bool
  | [] => true
  | x :: l => Nat.blt x n && allLt n l

/-- A guard that is decided on this way. -/
def setB (t : Nat) (b : Bool) : List Ev → List Ev
  | [] => []
  | ev :: l => bif isD ev.dst t then { ev with eff := { ev.eff with res := some (AV.b b) } } :: l else ev :: setB t b l
def noteV (m : Option (Nat × Bool)) (acc : List Ev) : List Ev := match m with
  | some (t, b) => setB t b acc
  | none => acc

section
variable (P : Program) (T : FuncId → Option Summ) (N : Nat) (ops : Array Oper) (E0 : Ef) (H0 : Hf) (nx0 : Nat)

def addEv (o : Oper) (acc : List Ev) (eff : Eff) : Ev :=
  ⟨acc.length, o.looksAt ops, jsOf (val wrH outH H0 (fun _ => true) acc) (val wrE outE E0 (fun _ => true) acc) o, anOf (direct o) acc [], nxt nx0 acc, o.dst, eff⟩

def evsT : List Oper → List Ev → Tree (List Ev)
  | [], acc => .ret acc
  | o :: l, acc => bif allLt acc.length (direct o) && dstOk N o.dst then
      guardT ops o (seenE E0 (o.looksAt ops) acc)
        (fun m => (opT P T (seenH H0 (addEv ops E0 H0 nx0 o (noteV m acc) skipEff).js (noteV m acc)) (seenE E0 (o.looksAt ops) (noteV m acc)) (nxt nx0 (noteV m acc)) o).bind fun eff =>
          bif effOk o.dst eff && apartAll (anOf (direct o) (noteV m acc) []) (addEv ops E0 H0 nx0 o (noteV m acc) eff) (noteV m acc) then evsT l (addEv ops E0 H0 nx0 o (noteV m acc) eff :: noteV m acc) else .fail)
        (fun m => bif apartAll (anOf (direct o) (noteV m acc) []) (addEv ops E0 H0 nx0 o (noteV m acc) skipEff) (noteV m acc) then evsT l (addEv ops E0 H0 nx0 o (noteV m acc) skipEff :: noteV m acc) else .fail)
    else .fail

def envOf (env : Env) : List Ev → Env
  | [] => env
  | ev :: l => putE ev.dst ev.eff.res (envOf env l)
def hpOf (hp : Hp) : List Ev → Hp
  | [] => hp
  | ev :: l => ev.eff.ups ++ hpOf hp l
end

def drawT (P : Program) (T : FuncId → Option Summ) (N : Nat) (ops : Array Oper) (st : St) : Tree St :=
  (evsT P T N ops (look st.env) (getH st.hp) st.nx ops.toList []).bind fun evs => .ret ⟨envOf st.env evs, hpOf st.hp evs, nxt st.nx evs⟩

section
variable {P : Program} {T : FuncId → Option Summ} {N : Nat} {ops : Array Oper} {E0 : Ef} {H0 : Hf} {nx0 : Nat}

theorem addN_mem {x y : Nat} {l : List Nat} (h : y ∈ addN x l) : y = x ∨ y ∈ l := by
  unfold addN at h
  cases hb : memN x l with
  | true => rw [hb] at h; exact .inr h
  | false => rw [hb] at h; exact List.mem_cons.1 h
theorem addAll_mem {y : Nat} : ∀ {a l : List Nat}, y ∈ addAll a l → y ∈ a ∨ y ∈ l
  | [], _, h => .inr h
  | x :: a, l, h => by
    rcases addN_mem h with rfl | h
    · exact .inl List.mem_cons_self
    · rcases addAll_mem h with h | h
      · exact .inl (List.mem_cons_of_mem _ h)
      · exact .inr h
theorem anOf_mem {d : List Nat} {a : Nat} : ∀ {pre : List Ev} {acc : List Nat}, a ∈ anOf d pre acc → a ∈ d ∨ (∃ q ∈ pre, q.i ∈ d ∧ a ∈ q.an) ∨ a ∈ acc
  | [], acc, h => by
    rcases addAll_mem h with h | h
    · exact .inl h
    · exact .inr (.inr h)
  | q :: l, acc, h => by
    simp only [anOf] at h
    cases hb : memN q.i d with
    | true =>
      rw [hb] at h
      rcases anOf_mem h with h | ⟨x, h1, h2⟩ | h
      · exact .inl h
      · exact .inr (.inl ⟨x, List.mem_cons_of_mem _ h1, h2⟩)
      · rcases addAll_mem h with h | h
        · exact .inr (.inl ⟨q, List.mem_cons_self, memN_iff.1 hb, h⟩)
        · exact .inr (.inr h)
    | false =>
      rw [hb] at h
      rcases anOf_mem h with h | ⟨x, h1, h2⟩ | h
      · exact .inl h
      · exact .inr (.inl ⟨x, List.mem_cons_of_mem _ h1, h2⟩)
      · exact .inr (.inr h)

theorem apartAll_spec {an : List Nat} {p : Ev} : ∀ {pre : List Ev}, apartAll an p pre = true → ∀ q ∈ pre, q.i ∈ an ∨ Apart q p
  | [], _, q, hq => by cases hq
  | x :: l, h, q, hq => by
    simp only [apartAll, Bool.and_eq_true, Bool.or_eq_true, Bool.not_eq_true'] at h
    rcases List.mem_cons.1 hq with rfl | hq
    · rcases h.1 with h | h
      · exact .inl (memN_iff.1 h)
      · exact .inr (clash_spec h)
    · exact apartAll_spec h.2 q hq

theorem allLt_spec {n : Nat} : ∀ {l : List Nat}, allLt n l = true → ∀ x ∈ l, x < n
  | [], _, x, hx => by cases hx
  | y :: l, h, x, hx => by
    simp only [allLt, Bool.and_eq_true] at h
    rcases List.mem_cons.1 hx with rfl | hx
    · exact Nat.le_of_ble_eq_true h.1
    · exact allLt_spec h.2 x hx

theorem setB_eq {t : Nat} {b : Bool} : ∀ {acc : List Ev}, (∀ av, val wrE outE E0 (fun _ => true) acc t = some av → av = AV.b b) → (val wrE outE E0 (fun _ => true) acc t).isSome → setB t b acc = acc
  | [], _, _ => rfl
  | ev :: l, h, hs => by
    simp only [setB]
    simp only [val, Bool.true_and, wrE, outE] at h hs
    cases hb : isD ev.dst t with
    | true =>
      rw [hb] at h hs
      simp only [cond_true] at h hs
      obtain ⟨av, hav⟩ := Option.isSome_iff_exists.1 hs
      have := h av hav
      subst this
      obtain ⟨i, ks, js, an, nx, dst, res, ups, nn⟩ := ev
      simp only at hav
      simp only [cond_true, hav]
    | false =>
      rw [hb] at h hs
      simp only [cond_false] at h hs
      simp only [cond_false]
      rw [setB_eq (acc := l) h hs]

theorem noteV_eq {m : Option (Nat × Bool)} {acc : List Ev} (h : ∀ t c, m = some (t, c) → val wrE outE E0 (fun _ => true) acc t = some (AV.b c)) : noteV m acc = acc := by
  cases m with
  | none => rfl
  | some x =>
    obtain ⟨t, c⟩ := x
    have := h t c rfl
    exact setB_eq (E0 := E0) (fun av hav => by rw [this] at hav; injection hav with hav; exact hav.symm) (by rw [this]; rfl)

theorem nxt_le : ∀ {evs : List Ev}, Good P T N ops E0 H0 nx0 evs → nx0 ≤ nxt nx0 evs ∧ ∀ q ∈ evs, q.nx + q.eff.nn ≤ nxt nx0 evs
  | [], _ => ⟨Nat.le_refl _, fun q hq => by cases hq⟩
  | ev :: pre, h => by
    obtain ⟨o, ho⟩ := h.2.1
    refine ⟨Nat.le_trans ho.nx0 (Nat.le_add_right _ _), fun q hq => ?_⟩
    rcases List.mem_cons.1 hq with rfl | hq
    · exact Nat.le_refl _
    · exact Nat.le_trans (ho.nx q hq) (Nat.le_add_right _ _)

theorem good_add {acc : List Ev} (hg : Good P T N ops E0 H0 nx0 acc) {o : Oper} (hop : ops[acc.length]? = some o) (hd : dstOk N o.dst = true) (hlt : allLt acc.length (direct o) = true) {eff : Eff} (he : effOk o.dst eff = true)
    (hap : apartAll (anOf (direct o) acc []) (addEv ops E0 H0 nx0 o acc eff) acc = true) {b : Bool} (hgd : GuardIs ops o (seenE E0 (o.looksAt ops) acc) b)
    (hrun : (b = true ∧ (opT P T (seenH H0 (addEv ops E0 H0 nx0 o acc eff).js acc) (seenE E0 (o.looksAt ops) acc) (nxt nx0 acc) o).run = some eff) ∨ (b = false ∧ eff = skipEff)) :
    Good P T N ops E0 H0 nx0 (addEv ops E0 H0 nx0 o acc eff :: acc) := by
  refine ⟨rfl, ⟨o, hop, rfl, hd, he, allLt_spec hlt, fun a ha => ?_, apartAll_spec hap, (nxt_le hg).2, (nxt_le hg).1, b, hgd, hrun⟩, hg⟩
  rcases anOf_mem ha with h | h | h
  · exact .inl h
  · exact .inr h
  · cases h

theorem evsT_good : ∀ (l : List Oper) (acc evs : List Ev), (evsT P T N ops E0 H0 nx0 l acc).run = some evs → Good P T N ops E0 H0 nx0 acc → ops.toList.drop acc.length = l → acc.length ≤ ops.size → Good P T N ops E0 H0 nx0 evs ∧ evs.length = ops.size
  | [], acc, evs, h, hg, hl, hle => by
    simp only [evsT, Tree.run, Option.some.injEq] at h; subst h
    refine ⟨hg, ?_⟩
    have := congrArg List.length hl
    simp at this; omega
  | o :: l, acc, evs, h, hg, hl, hle => by
    have hop : ops[acc.length]? = some o := by
      have := congrArg (fun (x : List Oper) => x[0]?) hl
      simpa [List.getElem?_drop] using this
    have hlt' : acc.length < ops.size := by
      rcases Nat.lt_or_ge acc.length ops.size with h | h
      · exact h
      · rw [Array.getElem?_eq_none h] at hop; cases hop
    have hl' : ops.toList.drop (acc.length + 1) = l := by
      rw [← List.drop_drop, hl]; rfl
    simp only [evsT] at h
    cases hb : (allLt acc.length (direct o) && dstOk N o.dst) with
    | false => rw [hb] at h; cases h
    | true =>
      rw [hb] at h
      simp only [cond_true] at h
      simp only [Bool.and_eq_true] at hb
      obtain ⟨b, m, hgd, hm, hcase⟩ := guardT_spec h
      have hn : noteV m acc = acc := noteV_eq (E0 := E0) fun t c e => (restr_spec (hm t c e)).2
      rw [hn] at hcase
      rcases hcase with ⟨rfl, hy⟩ | ⟨rfl, hy⟩
      · obtain ⟨eff, he, h2⟩ := Tree.run_bind_some hy
        cases hb2 : (effOk o.dst eff && apartAll (anOf (direct o) acc []) (addEv ops E0 H0 nx0 o acc eff) acc) with
        | false => rw [hb2] at h2; cases h2
        | true =>
          rw [hb2] at h2
          simp only [cond_true] at h2
          simp only [Bool.and_eq_true] at hb2
          exact evsT_good l _ evs h2 (good_add hg hop hb.2 hb.1 hb2.1 hb2.2 hgd (.inl ⟨rfl, he⟩)) (by simpa using hl') (by rw [List.length_cons]; omega)
      · cases hb2 : apartAll (anOf (direct o) acc []) (addEv ops E0 H0 nx0 o acc skipEff) acc with
        | false => rw [hb2] at hy; cases hy
        | true =>
          rw [hb2] at hy
          simp only [cond_true] at hy
          exact evsT_good l _ evs hy (good_add hg hop hb.2 hb.1 (by cases o.dst <;> rfl) hb2 hgd (.inr ⟨rfl, rfl⟩)) (by simpa using hl') (by rw [List.length_cons]; omega)

theorem envOf_look {env : Env} : ∀ {evs : List Ev}, Good P T N ops (look env) H0 nx0 evs → ∀ k, look (envOf env evs) k = val wrE outE (look env) (fun _ => true) evs k
  | [], _, _ => rfl
  | ev :: pre, h, k => by
    obtain ⟨o, ho⟩ := h.2.1
    have := ho.eOk
    simp only [envOf, val, Bool.true_and, wrE, outE]
    rw [isD_look ev.dst ev.eff _ (by rw [ho.dst]; exact this), envOf_look h.2.2]
theorem hpOf_get {hp : Hp} : ∀ {evs : List Ev}, getH (hpOf hp evs) = val wrH outH (getH hp) (fun _ => true) evs
  | [] => rfl
  | ev :: pre => by
    funext j
    simp only [hpOf, val, Bool.true_and, wrH, outH]
    rw [← updH_getH, updH_has, hpOf_get]

variable {w0 : World} {S : Nat → Nat → Prop} {R0 : Frag} {m : Nat} {r0 : Loc}

theorem drawT_wp {K : Know} (hT : TOk K P T) (hk : K.ok R0) (hm : P.follows .mixedOrders = true) {st st' : St} (h : (drawT P T N ops st).run = some st') {F : Frag} {r : Loc} {a : Act} {w : World} (hc : Conc N w0 S R0 m r0 st F r a w)
    {Q : Exit → Act → World → Prop} (hQ : ∀ F' r' a' w', Conc N w0 S R0 m r0 st' F' r' a' w' → Q .normal a' w') {id : Nat} : (Code.region id ops true).wp P Q a w := by
  unfold drawT at h
  obtain ⟨evs, h1, h2⟩ := Tree.run_bind_some h
  simp only [Tree.run, Option.some.injEq] at h2; subst h2
  obtain ⟨hg, hlen⟩ := evsT_good ops.toList [] evs h1 trivial rfl (Nat.zero_le _)
  have vE : ∀ {L : Nat → Bool} (hL : ∀ i, L i = false) (evs : List Ev), val wrE outE (look st.env) L evs = look st.env := fun hL evs => by
    funext k
    induction evs with
    | nil => rfl
    | cons ev l ih => simp only [val, hL, Bool.false_and, cond_false, ih]
  have vH : ∀ {L : Nat → Bool} (hL : ∀ i, L i = false) (evs : List Ev), val wrH outH (getH st.hp) L evs = getH st.hp := fun hL evs => by
    funext k
    induction evs with
    | nil => rfl
    | cons ev l ih => simp only [val, hL, Bool.false_and, cond_false, ih]
  have hL0 : ∀ i, (Array.replicate ops.size false).getD i false = false := fun i => by
    rw [Array.getD_eq_getD_getElem?, Array.getElem?_replicate]
    split <;> rfl
  refine wp_region_any hm (drawn_wp (w0 := w0) (S := S) (m := m) (r0 := r0) hT hk hg hlen (fun F' r' a' w' hl => hQ F' r' a' w' ⟨hl.defers, hl.size, ?_, ?_, ?_, hl.par, Nat.le_trans hl.mle (nxt_le hg).1⟩) ops.size (Array.replicate ops.size false) (List.range ops.size) F r a _ (by simp) (fun i hi _ => List.mem_range.2 hi) (by simp) ?_ ?_)
  · have e : look (envOf st.env evs) = val wrE outE (look st.env) (fun _ => true) evs := by funext k; exact envOf_look hg k
    rw [e]; exact hl.env
  · have e : look (envOf st.env evs) = val wrE outE (look st.env) (fun _ => true) evs := by funext k; exact envOf_look hg k
    rw [e]
    refine fun k av hk => AV.inn_mono (fun j hj => ?_) (hl.inn k av hk)
    rcases hj with hj | ⟨ev, g1, _, g3, g4⟩
    · exact Nat.lt_of_lt_of_le hj (nxt_le hg).1
    · exact Nat.lt_of_lt_of_le g4 ((nxt_le hg).2 ev g1)
  · show Mem w0 S R0 _ (getH (hpOf st.hp evs)) F' r' w'
    rw [hpOf_get]
    refine hl.mem.monoD fun j hj => ?_
    rcases hj with hj | ⟨ev, g1, _, g3, g4⟩
    · exact Nat.lt_of_lt_of_le hj (nxt_le hg).1
    · exact Nat.lt_of_lt_of_le g4 ((nxt_le hg).2 ev g1)
  · intro i o _ hi
    have hi' : (Array.replicate ops.size false).getD i false = true := hi
    rw [hL0 i] at hi'; cases hi'
  · refine ⟨hc.defers, hc.size, by rw [vE hL0]; exact hc.env, ?_, ?_, hc.par, hc.mle⟩
    · rw [vE hL0]; exact fun k av hk => AV.inn_mono (fun j hj => .inl hj) (hc.inn k av hk)
    · rw [vH hL0]; exact (hc.mem.monoD (fun j hj => .inl hj)).drew
end
end Go.Sz
