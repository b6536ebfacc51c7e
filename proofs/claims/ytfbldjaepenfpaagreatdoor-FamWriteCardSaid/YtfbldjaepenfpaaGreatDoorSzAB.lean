/-
  A symbolic machine for one call, with rows of any length: a state in its plain form (few temporaries, objects numbered anew).
  A symbolic machine for one call, with rows of any length: forms of states, and what a state of a form holds.
-/
import Derived.Test.YtfbldjaepenfpaaGreatDoorSzZ
noncomputable section
namespace Go.Sz
open Go Go.RowKit Go.Sy
set_option linter.unusedVariables false
set_option linter.unusedSimpArgs false
set_option linter.constructorNameAsVariable false
def idxN (j : Nat) : List Nat → Nat → Option Nat
  | [], _ => none
  | x :: l, k => bif Nat.beq x j then some k else idxN j l (k + 1)
def renI (ids : List Nat) : Ren := ⟨fun j o => match idxN j ids 0 with
  | some k => some (k, o)
  | none => none, fun j => idxN j ids 0⟩
def fixN : Nat → Nat → List Nat → Bool
  | 0, _, _ => true
  | n + 1, k, x :: l => Nat.beq x k && fixN n (k + 1) l
  | _ + 1, _, [] => false
def nodupN : List Nat → Bool
  | [] => true
  | x :: l => !memN x l && nodupN l
def permR (ids : List Nat) (r : Loc) : Loc := fun k => match ids[k]? with
  | some j => r j
  | none => ⟨0, 0, undef⟩
def renHp (σ : Ren) (H : Hf) : List Nat → Nat → Option Hp
  | [], _ => some []
  | j :: l, k => match H j with
    | none => renHp σ H l (k + 1)
    | some ob => match renOb σ ob, renHp σ H l (k + 1) with
      | some ob', some h => some ((k, ob') :: h)
      | _, _ => none
def renEnv (σ : Ren) : Env → Option Env
  | [] => some []
  | (k, av) :: l => match renA σ av, renEnv σ l with
    | some x, some y => some ((k, x) :: y)
    | _, _ => none
def restrE (E : Ef) : List Nat → Env
  | [] => []
  | k :: ks => match E k with
    | some av => (k, av) :: restrE E ks
    | none => restrE E ks
theorem idxN_spec {j : Nat} : ∀ {σ : List Nat} {k0 k : Nat}, idxN j σ k0 = some k → k0 ≤ k ∧ σ[k - k0]? = some j
  | [], _, _, h => by cases h
  | x :: l, k0, k, h => by
    simp only [idxN, bif_beq] at h
    split at h
    · rename_i e
      injection h with h; subst h; subst e; simp
    · obtain ⟨h1, h2⟩ := idxN_spec h
      refine ⟨by omega, ?_⟩
      rw [show k - k0 = (k - (k0 + 1)) + 1 by omega, List.getElem?_cons_succ]; exact h2
theorem idxN_get {j k : Nat} {σ : List Nat} (h : idxN j σ 0 = some k) : σ[k]? = some j := by have := (idxN_spec h).2; simpa using this
theorem nodupN_spec : ∀ {l : List Nat}, nodupN l = true → ∀ (i j : Nat) (x : Nat), l[i]? = some x → l[j]? = some x → i = j
  | [], _, i, j, x, h, _ => by simp at h
  | y :: l, hn, i, j, x, hi, hj => by
    simp only [nodupN, Bool.and_eq_true, Bool.not_eq_true'] at hn
    have hy : y ∉ l := fun h => by have := memN_iff.2 h; rw [hn.1] at this; cases this
    cases i with
    | zero =>
      cases j with
      | zero => rfl
      | succ j => simp at hi hj; subst hi; exact absurd (List.mem_of_getElem? hj) hy
    | succ i =>
      cases j with
      | zero => simp at hi hj; subst hj; exact absurd (List.mem_of_getElem? hi) hy
      | succ j => simp at hi hj; rw [nodupN_spec hn.2 i j x hi hj]
theorem fixN_spec : ∀ {n k : Nat} {l : List Nat}, fixN n k l = true → ∀ i, i < n → l[i]? = some (k + i)
  | 0, _, _, _, i, h => by omega
  | n + 1, k, x :: l, h, i, hi => by
    simp only [fixN, Bool.and_eq_true] at h
    cases i with
    | zero => rw [← Nat.eq_of_beq_eq_true h.1]; simp
    | succ i =>
      have := fixN_spec h.2 i (by omega)
      rw [List.getElem?_cons_succ, this, show k + 1 + i = k + (i + 1) by omega]
  | _ + 1, _, [], h, _, _ => by cases h
theorem permR_get {ids : List Nat} {r : Loc} {k j : Nat} (h : ids[k]? = some j) : permR ids r k = r j := by unfold permR; rw [h]
theorem renI_ok (ids : List Nat) (r : Loc) : RenOk (renI ids) r (permR ids r) (fun k => k < ids.length) := by
  refine ⟨fun j o k o' h => ?_, fun j k h => ?_⟩
  · simp only [renI] at h
    split at h
    · rename_i k1 hk
      simp only [Option.some.injEq, Prod.mk.injEq] at h
      obtain ⟨rfl, rfl⟩ := h
      have := idxN_get hk
      rw [permR_get this]
      exact ⟨(List.getElem?_eq_some_iff.1 this).1, rfl, rfl⟩
    · cases h
  · have := idxN_get h
    exact ⟨(List.getElem?_eq_some_iff.1 this).1, permR_get this⟩
theorem restrE_look {E : Ef} : ∀ {ks : List Nat} {k : Nat} {av : AV}, look (restrE E ks) k = some av → E k = some av
  | [], _, _, h => by cases h
  | x :: ks, k, av, h => by
    simp only [restrE] at h
    split at h
    · rename_i v hv
      rw [look_cons] at h
      split at h
      · rename_i e; subst e; rw [hv, h]
      · exact restrE_look h
    · exact restrE_look h
theorem renEnv_look {σ : Ren} : ∀ {env env' : Env} {k : Nat} {av' : AV}, renEnv σ env = some env' → look env' k = some av' → ∃ av, look env k = some av ∧ renA σ av = some av'
  | [], env', k, av', h, hk => by injection h with h; subst h; cases hk
  | (x, v) :: l, env', k, av', h, hk => by
    simp only [renEnv] at h
    split at h
    · rename_i a b ha hb
      injection h with h; subst h
      rw [look_cons] at hk
      split at hk
      · rename_i e
        injection hk with hk; subst hk
        exact ⟨v, by rw [look_cons, if_pos e], ha⟩
      · rename_i e
        obtain ⟨av, h1, h2⟩ := renEnv_look hb hk
        exact ⟨av, by rw [look_cons, if_neg e]; exact h1, h2⟩
    · cases h
theorem renHp_get {σ : Ren} {H : Hf} : ∀ {ids : List Nat} {k0 : Nat} {hp : Hp} {k : Nat} {ob' : Ob}, renHp σ H ids k0 = some hp → getH hp k = some ob' → k0 ≤ k ∧ ∃ j ob, ids[k - k0]? = some j ∧ H j = some ob ∧ renOb σ ob = some ob'
  | [], k0, hp, k, ob', h, hk => by injection h with h; subst h; cases hk
  | j :: l, k0, hp, k, ob', h, hk => by
    have next : ∀ {hp : Hp}, renHp σ H l (k0 + 1) = some hp → getH hp k = some ob' → k0 ≤ k ∧ ∃ j' ob, (j :: l)[k - k0]? = some j' ∧ H j' = some ob ∧ renOb σ ob = some ob' := fun h hk => by
      obtain ⟨h1, j', ob, h2, h3⟩ := renHp_get h hk
      refine ⟨by omega, j', ob, ?_, h3⟩
      rw [show k - k0 = (k - (k0 + 1)) + 1 by omega, List.getElem?_cons_succ]; exact h2
    simp only [renHp] at h
    split at h
    · exact next h hk
    · rename_i ob hob
      split at h
      · rename_i a b ha hb
        injection h with h; subst h
        simp only [getH_cons, bif_beq] at hk
        split at hk
        · rename_i e
          subst e
          injection hk with hk; subst hk
          exact ⟨Nat.le_refl _, j, ob, by simp, hob, ha⟩
        · exact next hb hk
      · cases h
section
variable {w0 : World} {S : Nat → Nat → Prop} {R0 : Frag} {D : Nat → Prop} {H : Hf} {F : Frag} {r : Loc} {w : World}
theorem Mem.ren (h : Mem w0 S R0 D H F r w) {ids : List Nat} (hnd : nodupN ids = true) {hp : Hp} (hhp : renHp (renI ids) H ids 0 = some hp) : Mem w0 S R0 (fun k => k < ids.length) (getH hp) F (permR ids r) w := by
  have hget : ∀ k ob', getH hp k = some ob' → ∃ j ob, ids[k]? = some j ∧ H j = some ob ∧ renOb (renI ids) ob = some ob' := fun k ob' hk => by
    obtain ⟨_, j, ob, h1, h2⟩ := renHp_get hhp hk
    exact ⟨j, ob, by simpa using h1, h2⟩
  have hσ := renI_ok ids r
  refine ⟨fun k ob' hk => ?_, fun k ob' hk => ?_, fun k ob' hk => ?_, fun k k' ob ob' b o hk hk' hne hf hf' => ?_, h.fin, fun b o v k ob' hF hk hf => ?_, h.frame, fun k ob' b o hk hf => ?_, h.base, h.prov⟩
  · obtain ⟨j, ob, h1, h2, h3⟩ := hget k ob' hk
    rw [permR_get h1]
    exact (renOb_spec hσ h3).1 _ (h.obs j ob h2)
  · obtain ⟨j, ob, h1, _⟩ := hget k ob' hk
    exact (List.getElem?_eq_some_iff.1 h1).1
  · obtain ⟨j, ob, h1, h2, h3⟩ := hget k ob' hk
    exact (renOb_spec (F := F) (w := w) hσ h3).2.2
  · obtain ⟨j, ob1, h1, h2, h3⟩ := hget k _ hk
    obtain ⟨j', ob2, g1, g2, g3⟩ := hget k' _ hk'
    rw [permR_get h1] at hf
    rw [permR_get g1] at hf'
    refine h.disj j j' ob1 ob2 b o h2 g2 (fun e => ?_) ((renOb_spec (F := F) (w := w) hσ h3).2.1 _ _ _ hf) ((renOb_spec (F := F) (w := w) hσ g3).2.1 _ _ _ hf')
    subst e
    exact hne (nodupN_spec hnd k k' j h1 g1)
  · obtain ⟨j, ob, h1, h2, h3⟩ := hget k _ hk
    rw [permR_get h1] at hf
    exact h.fown b o v j ob hF h2 ((renOb_spec (F := F) (w := w) hσ h3).2.1 _ _ _ hf)
  · obtain ⟨j, ob, h1, h2, h3⟩ := hget k _ hk
    rw [permR_get h1] at hf
    exact h.fresh j ob b o h2 ((renOb_spec (F := F) (w := w) hσ h3).2.1 _ _ _ hf)
end
/-! ### Slices that nobody writes any more, seen as what they hold -/
def thawC (H : Hf) : Cell → Cell
  | .h j => match H j with
    | some (.frz ts l) => .d ts l
    | _ => .h j
  | c => c
def thawL (H : Hf) : List Cell → List Cell
  | [] => []
  | c :: l => thawC H c :: thawL H l
def thawP (H : Hf) : Part → Part
  | .one c => .one (thawC H c)
  | .many l => .many (thawL H l)
def thawPs (H : Hf) : List Part → List Part
  | [] => []
  | x :: l => thawP H x :: thawPs H l
def thawA (H : Hf) : AV → AV
  | .p x => .p (thawP H x)
  | .t l => .t (thawPs H l)
def thawE (H : Hf) : Env → Env
  | [] => []
  | (k, av) :: l => (k, thawA H av) :: thawE H l
section
variable {F : Frag} {r : Loc} {D : Nat → Prop} {H : Hf} {w : World}
theorem thawC_rep (hs : ∀ j ob, H j = some ob → ObIs F r (r j) w ob) {c : Cell} : (c.inn D → (thawC H c).inn D) ∧ ∀ u, c.rep F r u → (thawC H c).rep F r u := by
  unfold thawC
  split
  · rename_i j
    split
    · rename_i ts l hj
      exact ⟨fun _ => trivial, fun u hu => by rw [hu.1]; exact hs j _ hj⟩
    · exact ⟨fun h => h, fun u h => h⟩
  · exact ⟨fun h => h, fun u h => h⟩
theorem thawL_rep (hs : ∀ j ob, H j = some ob → ObIs F r (r j) w ob) : ∀ {l : List Cell}, ((∀ c ∈ l, c.inn D) → ∀ c ∈ thawL H l, c.inn D) ∧ ∀ us, cellsRep F r l us → cellsRep F r (thawL H l) us
  | [] => ⟨fun h => h, fun _ h => h⟩
  | c :: l => by
    obtain ⟨h1, h2⟩ := thawL_rep hs (l := l)
    obtain ⟨g1, g2⟩ := thawC_rep (D := D) hs (c := c)
    refine ⟨fun h x hx => ?_, fun us hu => ?_⟩
    · simp only [thawL, List.mem_cons] at hx
      rcases hx with rfl | hx
      · exact g1 (h c List.mem_cons_self)
      · exact h1 (fun y hy => h y (List.mem_cons_of_mem _ hy)) x hx
    · cases us with
      | nil => exact hu.elim
      | cons u us => exact ⟨g2 u hu.1, h2 us hu.2⟩
theorem thawP_rep (hs : ∀ j ob, H j = some ob → ObIs F r (r j) w ob) {x : Part} : (x.inn D → (thawP H x).inn D) ∧ ∀ u, x.rep F r u → (thawP H x).rep F r u := by
  cases x with
  | one c => exact thawC_rep hs
  | many l =>
    obtain ⟨h1, h2⟩ := thawL_rep (D := D) hs (l := l)
    refine ⟨h1, fun u hu => ?_⟩
    obtain ⟨vs, g1, rfl⟩ := hu
    exact ⟨vs, h2 _ g1, rfl⟩
theorem thawPs_rep (hs : ∀ j ob, H j = some ob → ObIs F r (r j) w ob) : ∀ {l : List Part}, ((∀ c ∈ l, c.inn D) → ∀ c ∈ thawPs H l, c.inn D) ∧ ∀ us, partsRep F r l us → partsRep F r (thawPs H l) us
  | [] => ⟨fun h => h, fun _ h => h⟩
  | c :: l => by
    obtain ⟨h1, h2⟩ := thawPs_rep hs (l := l)
    obtain ⟨g1, g2⟩ := thawP_rep (D := D) hs (x := c)
    refine ⟨fun h x hx => ?_, fun us hu => ?_⟩
    · simp only [thawPs, List.mem_cons] at hx
      rcases hx with rfl | hx
      · exact g1 (h c List.mem_cons_self)
      · exact h1 (fun y hy => h y (List.mem_cons_of_mem _ hy)) x hx
    · cases us with
      | nil => exact hu.elim
      | cons u us => exact ⟨g2 u hu.1, h2 us hu.2⟩
theorem thawA_rep (hs : ∀ j ob, H j = some ob → ObIs F r (r j) w ob) {x : AV} : (x.inn D → (thawA H x).inn D) ∧ ∀ u, x.rep F r u → (thawA H x).rep F r u := by
  cases x with
  | p x => exact thawP_rep hs
  | t l =>
    obtain ⟨h1, h2⟩ := thawPs_rep (D := D) hs (l := l)
    refine ⟨h1, fun u hu => ?_⟩
    obtain ⟨vs, g1, rfl⟩ := hu
    exact ⟨vs, h2 _ g1, rfl⟩
theorem thawE_look : ∀ {env : Env} {k : Nat} {av' : AV}, look (thawE H env) k = some av' → ∃ av, look env k = some av ∧ av' = thawA H av
  | [], _, _, h => by cases h
  | (x, v) :: l, k, av', h => by
    simp only [thawE] at h
    rw [look_cons] at h
    split at h
    · rename_i e
      injection h with h
      exact ⟨v, by rw [look_cons, if_pos e], h.symm⟩
    · rename_i e
      obtain ⟨av, h1, h2⟩ := thawE_look h
      exact ⟨av, by rw [look_cons, if_neg e]; exact h1, h2⟩
end
/-! ### Nil slices that are to be rows of one's own -/
def findT : List (Nat × Tys) → Nat → Option Tys
  | [], _ => none
  | (k, ts) :: l, j => bif Nat.beq k j then some ts else findT l j
def isNilA : AV → Bool
  | .p (.one (.v (.slice none 0 0))) => true
  | _ => false
def coeE (coes : List (Nat × Tys)) : Env → St
  → St
  | [], st => st
  | (k, av) :: l, st => match findT coes k with
    | some ts => bif isNilA av then ⟨(k, AV.c (.h (coeE coes l st).nx)) :: (coeE coes l st).env, ((coeE coes l st).nx, .row ts []) :: (coeE coes l st).hp, (coeE coes l st).nx + 1⟩
      else ⟨(k, av) :: (coeE coes l st).env, (coeE coes l st).hp, (coeE coes l st).nx⟩
    | none => ⟨(k, av) :: (coeE coes l st).env, (coeE coes l st).hp, (coeE coes l st).nx⟩
section
variable {ds : List Deferred} {N : Nat} {w0 : World} {S : Nat → Nat → Prop} {R0 : Frag} {m : Nat} {r0 : Loc}
theorem isNilA_rep {F : Frag} {r : Loc} {av : AV} (h : isNilA av = true) {v : Value} (hv : av.rep F r v) : v = .slice none 0 0 := by
  unfold isNilA at h
  split at h
  · exact hv
  · cases h
theorem Conc.cons {st : St} {F : Frag} {r : Loc} {a : Act} {w : World} (h : Conc ds N w0 S R0 m r0 st F r a w) {k : Nat} {av : AV} {v : Value} (hk : a.tmps[k]? = some v) (hv : av.rep F r v) (hi : av.inn fun j => j < st.nx) :
    Conc ds N w0 S R0 m r0 ⟨(k, av) :: st.env, st.hp, st.nx⟩ F r a w := by
  refine ⟨h.defers, h.size, fun j x hx => ?_, fun j x hx => ?_, h.mem, h.par, h.mle⟩ <;> simp only [look_cons] at hx <;> split at hx
  · rename_i e; subst e; injection hx with hx; subst hx; exact ⟨v, hk, hv⟩
  · exact h.env j x hx
  · injection hx with hx; subst hx; exact hi
  · exact h.inn j x hx
theorem Conc.newNil {st : St} {F : Frag} {r : Loc} {a : Act} {w : World} (h : Conc ds N w0 S R0 m r0 st F r a w) (ts : Tys) :
    Conc ds N w0 S R0 m r0 ⟨st.env, (st.nx, .row ts []) :: st.hp, st.nx + 1⟩ F (locPut r st.nx ⟨0, 0, .slice none 0 0⟩) a w := by
  have hn : ¬ st.nx < st.nx := Nat.lt_irrefl _
  have ha := locPut_agree (D := fun j => j < st.nx) r hn ⟨0, 0, .slice none 0 0⟩
  refine ⟨h.defers, h.size, h.env.to h.inn (Frag.le_refl F) ha, fun k av hk => AV.inn_mono (fun j hj => Nat.lt_succ_of_lt hj) (h.inn k av hk), ?_, fun j hj => ?_, Nat.le_succ_of_le h.mle⟩
  · have := h.mem.fresh' hn (js := []) (fun j hj => by cases hj) (d := ⟨0, 0, .slice none 0 0⟩) (ob := .row ts []) (w' := w) (.inl ⟨rfl, rfl⟩) trivial (fun b o hfo => by
      obtain ⟨n, cap, e, _⟩ := hfo; simp at e) (Fr.refl _ _)
    have e : updH ((st.nx, Ob.row ts []) :: deads []) (getH st.hp) = getH ((st.nx, .row ts []) :: st.hp) := (updH_getH [(st.nx, .row ts [])] st.hp)
    rw [e] at this
    exact this.monoD fun j hj => by rcases hj with hj | hj <;> (show j < st.nx + 1; omega)
  · rw [ha j (Nat.lt_of_lt_of_le hj h.mle)]; exact h.par j hj
theorem coeE_conc {coes : List (Nat × Tys)} {a : Act} {w : World} : ∀ {env : Env} {st : St} {F : Frag} {r : Loc}, Conc ds N w0 S R0 m r0 st F r a w → (∀ x ∈ env, ∃ v, a.tmps[x.1]? = some v ∧ x.2.rep F r v ∧ x.2.inn fun j => j < st.nx) →
    ∃ r', Conc ds N w0 S R0 m r0 (coeE coes env st) F r' a w ∧ Loc.agree (fun j => j < st.nx) r r' ∧ st.nx ≤ (coeE coes env st).nx
  | [], st, F, r, hc, _ => ⟨r, hc, fun _ _ => rfl, Nat.le_refl _⟩
  | (k, av) :: l, st, F, r, hc, h => by
    obtain ⟨r', h1, h2, h3⟩ := coeE_conc (coes := coes) (env := l) hc (fun x hx => h x (List.mem_cons_of_mem _ hx))
    obtain ⟨v, g1, g2, g3⟩ := h (k, av) List.mem_cons_self
    have g3' : av.inn fun j => j < (coeE coes l st).nx := AV.inn_mono (fun j hj => Nat.lt_of_lt_of_le hj h3) g3
    have g2' : av.rep F r' v := AV.rep_to (Frag.le_refl F) h2 g3 g2
    have plain := h1.cons g1 g2' g3'
    simp only [coeE]
    split
    · rename_i ts hts
      cases hb : isNilA av with
      | false => exact ⟨r', plain, h2, h3⟩
      | true =>
        have hv := isNilA_rep hb g2'
        subst hv
        have hn := h1.newNil ts
        have ha := locPut_agree (D := fun j => j < (coeE coes l st).nx) r' (Nat.lt_irrefl _) ⟨0, 0, .slice none 0 0⟩
        refine ⟨_, hn.cons (av := AV.c (.h (coeE coes l st).nx)) g1 ?_ ?_, fun j hj => ?_, Nat.le_succ_of_le h3⟩
        · exact ⟨by rw [locPut_self], rfl⟩
        · exact Nat.lt_succ_self _
        · rw [ha j (Nat.lt_of_lt_of_le hj h3)]; exact h2 j hj
    · exact ⟨r', plain, h2, h3⟩
end
/-! ### The plain form -/
def kids (H : Hf) (j : Nat) : List Nat := match H j with
  | some (.lit cs) => (refsL cs).map (·.1)
  | some (.lr _ _ cs) => (refsL cs).map (·.1)
  | some (.cm m) => (refsL (cmCells m)).map (·.1)
  | _ => []
def kidsL (H : Hf) : List Nat → List Nat
  | [] => []
  | j :: l => kids H j ++ kidsL H l
def reachB (H : Hf) : Nat → List Nat → List Nat → List Nat
  | 0, _, s => s
  | _ + 1, [], s => s
  | n + 1, j :: l, s => bif memN j s then reachB H n l s else reachB H n (l ++ kids H j) (j :: s)
def refsE : Env → List Nat
  | [] => []
  | (_, av) :: l => (refsA av).map (·.1) ++ refsE l
def downTo : Nat → List Nat
  | 0 => []
  | n + 1 => n :: downTo n
def renSt (ids : List Nat) (m : Nat) (st : St) : Option St :=
  bif fixN m 0 ids && nodupN ids then match renEnv (renI ids) st.env, renHp (renI ids) (getH st.hp) ids 0 with
    | some e, some h => some ⟨e, h, ids.length⟩
    | _, _ => none
  else none
def idsOf (m : Nat) (st : St) : List Nat := (reachB (getH st.hp) 300 (kidsL (getH st.hp) (downTo m).reverse ++ refsE st.env) (downTo m)).reverse
def thawSt (st : St) : St := ⟨thawE (getH st.hp) st.env, st.hp, st.nx⟩
def coeO1 (k : Nat) (ts : Tys) (st : St) : St := match getH st.hp ((k - 1000000) / 1000) with
  | some (.lit cs) => match nth cs ((k - 1000000) % 1000) with
    | some (.v (.slice none 0 0)) => ⟨st.env, ((k - 1000000) / 1000, .lit (setNth cs ((k - 1000000) % 1000) (.h st.nx))) :: (st.nx, .row ts []) :: st.hp, st.nx + 1⟩
    | _ => st
  | _ => st
def coeO : List (Nat × Tys) → St → St
  | [], st => st
  | (k, ts) :: l, st => coeO l (bif Nat.ble 1000000 k then coeO1 k ts st else st)
def hasO : List (Nat × Tys) → Bool
  | [] => false
  | (k, _) :: l => bif Nat.ble 1000000 k then true else hasO l
def canon (m : Nat) (coes : List (Nat × Tys)) (ks : List Nat) (st : St) : Option St :=
  let st1 := thawSt (coeE coes (restrE (look st.env) ks) ⟨[], st.hp, st.nx⟩)
  match renSt (idsOf m st1) m st1 with
  | some st2 => bif hasO coes then renSt (idsOf m (coeO coes st2)) m (coeO coes st2) else some st2
  | none => none
section
variable {ds : List Deferred} {N : Nat} {w0 : World} {S : Nat → Nat → Prop} {R0 : Frag} {m : Nat} {r0 : Loc} {F : Frag} {a : Act} {w : World}
theorem Conc.ren {st st' : St} {r : Loc} (h : Conc ds N w0 S R0 m r0 st F r a w) {ids : List Nat} (hr : renSt ids m st = some st') : ∃ r', Conc ds N w0 S R0 m r0 st' F r' a w := by
  unfold renSt at hr
  cases hb : (fixN m 0 ids && nodupN ids) with
  | false => rw [hb] at hr; cases hr
  | true =>
    rw [hb] at hr
    simp only [cond_true] at hr
    simp only [Bool.and_eq_true] at hb
    split at hr
    · rename_i e hp he hhp
      injection hr with hr; subst hr
      have hσ := renI_ok ids r
      refine ⟨permR ids r, h.defers, h.size, fun k av' hk => ?_, fun k av' hk => ?_, h.mem.ren hb.2 hhp, fun j hj => ?_, ?_⟩
      · obtain ⟨av, h1, h2⟩ := renEnv_look he hk
        obtain ⟨v, h3, h4⟩ := h.env k av h1
        exact ⟨v, h3, (renA_rep hσ (F := F) h2).2 v h4⟩
      · obtain ⟨av, h1, h2⟩ := renEnv_look he hk
        exact (renA_rep hσ (F := F) h2).1
      · have := fixN_spec hb.1 j hj
        rw [Nat.zero_add] at this
        rw [permR_get this]; exact h.par j hj
      · rcases Nat.eq_zero_or_pos m with e0 | e0
        · rw [e0]; exact Nat.zero_le _
        · have := fixN_spec hb.1 (m - 1) (by omega)
          have := (List.getElem?_eq_some_iff.1 this).1
          show m ≤ ids.length
          omega
    · cases hr
theorem Conc.thaw {st : St} {r : Loc} (h : Conc ds N w0 S R0 m r0 st F r a w) : Conc ds N w0 S R0 m r0 (thawSt st) F r a w := by
  refine ⟨h.defers, h.size, fun k av' hk => ?_, fun k av' hk => ?_, h.mem, h.par, h.mle⟩
  · obtain ⟨av, h1, rfl⟩ := thawE_look hk
    obtain ⟨v, h2, h3⟩ := h.env k av h1
    exact ⟨v, h2, (thawA_rep (D := fun j => j < st.nx) h.mem.obs).2 v h3⟩
  · obtain ⟨av, h1, rfl⟩ := thawE_look hk
    exact (thawA_rep h.mem.obs).1 (h.inn k av h1)
theorem restrE_mem {E : Ef} : ∀ {ks : List Nat} {x : Nat × AV}, x ∈ restrE E ks → E x.1 = some x.2
  | [], _, h => by cases h
  | k :: ks, x, h => by
    simp only [restrE] at h
    split at h
    · rename_i v hv
      rcases List.mem_cons.1 h with rfl | h
      · exact hv
      · exact restrE_mem h
    · exact restrE_mem h
theorem Conc.bare {st : St} {r : Loc} (h : Conc ds N w0 S R0 m r0 st F r a w) : Conc ds N w0 S R0 m r0 ⟨[], st.hp, st.nx⟩ F r a w :=
  ⟨h.defers, h.size, (fun k av hk => by cases hk), (fun k av hk => by cases hk), h.mem, h.par, h.mle⟩
theorem setNth_get {α : Type} : ∀ (l : List α) (i : Nat) (x : α) (k : Nat) (y : α), (setNth l i x)[k]? = some y → (k = i ∧ y = x) ∨ l[k]? = some y
  | [], _, _, k, y, h => by simp [setNth] at h
  | z :: l, 0, x, 0, y, h => by simp [setNth] at h; exact .inl ⟨rfl, h.symm⟩
  | z :: l, 0, x, k + 1, y, h => by simp [setNth] at h; exact .inr (by simpa using h)
  | z :: l, i + 1, x, 0, y, h => by simp [setNth] at h; exact .inr (by simp [h])
  | z :: l, i + 1, x, k + 1, y, h => by
    simp only [setNth, List.getElem?_cons_succ] at h
    rcases setNth_get l i x k y h with ⟨h1, h2⟩ | h
    · exact .inl ⟨by rw [h1], h2⟩
    · exact .inr (by simpa using h)
theorem setNth_len {α : Type} : ∀ (l : List α) (i : Nat) (x : α), (setNth l i x).length = l.length
  | [], _, _ => rfl
  | z :: l, 0, x => rfl
  | z :: l, i + 1, x => by simp [setNth, setNth_len l i x]
theorem Conc.setCell {st : St} {r : Loc} (h : Conc ds N w0 S R0 m r0 st F r a w) {j i k : Nat} {cs : List Cell} (hj : getH st.hp j = some (.lit cs)) (hi : cs[i]? = some (.v (.slice none 0 0))) (hk : (r k).hv = .slice none 0 0) (hkn : k < st.nx) :
    Conc ds N w0 S R0 m r0 ⟨st.env, (j, .lit (setNth cs i (.h k))) :: st.hp, st.nx⟩ F r a w := by
  refine ⟨h.defers, h.size, h.env, h.inn, ?_, h.par, h.mle⟩
  have hjn : j < st.nx := h.mem.dom j _ hj
  have hone : ∀ {j' : Nat} {ob : Ob}, j' = j → getH ((j, Ob.lit (setNth cs i (.h k))) :: st.hp) j' = some ob → ob = .lit (setNth cs i (.h k)) := fun {j' ob} e hob => by
    subst e
    simp only [getH_cons, bif_beq, if_true, Option.some.injEq] at hob
    exact hob.symm
  have hother : ∀ {j' : Nat}, j' ≠ j → getH ((j, Ob.lit (setNth cs i (.h k))) :: st.hp) j' = getH st.hp j' := fun {j'} e => by
    simp only [getH_cons, bif_beq]
    rw [if_neg (fun e' => e e'.symm)]
  refine h.mem.step (T := fun x => x = j) (fun _ h => h) (fun _ _ => rfl) (fun j' ob hne hob => by rw [hother hne] at hob; exact hob) ?_ ?_ ?_ (Fr.refl _ _) (Frag.le_refl F) (fun b o v hv => .inl hv)
  · intro j' ob e hob
    have := hone e hob
    subst this; subst e
    obtain ⟨vs, h1, h2, h3, h4⟩ := h.mem.obs j' _ hj
    refine ⟨hjn, ⟨vs, ?_, h2, by rw [setNth_len]; exact h3, h4⟩, ?_⟩
    · refine cellsRep_of (by rw [setNth_len]; exact cellsRep_length h1) fun x c v hc hv => ?_
      obtain ⟨c', hc', hr⟩ := cellsRep_get' h1 x v hv
      rcases setNth_get _ _ _ _ _ hc with ⟨rfl, rfl⟩ | hc
      · rw [hi] at hc'
        injection hc' with hc'; subst hc'
        simp only [Cell.rep] at hr ⊢
        subst hr
        exact ⟨hk.symm, rfl⟩
      · rw [hc] at hc'; injection hc' with hc'; subst hc'; exact hr
    · intro c hc
      obtain ⟨x, hx⟩ := List.mem_iff_getElem?.1 hc
      rcases setNth_get _ _ _ _ _ hx with ⟨rfl, rfl⟩ | hx
      · exact hkn
      · exact h.mem.scp j' _ hj c (List.mem_of_getElem? hx)
  · intro j' ob b o e hob hfo
    have := hone e hob
    subst this; subst e
    obtain ⟨h1, h2, h3⟩ := hfo
    rw [setNth_len] at h3
    exact .inl ⟨j', _, rfl, hj, h1, h2, h3⟩
  · intro j1 j2 ob1 ob2 b o e1 e2 _ _ hne
    exact absurd (e1.trans e2.symm) hne
theorem coeO1_conc {st : St} {r : Loc} (h : Conc ds N w0 S R0 m r0 st F r a w) (k : Nat) (ts : Tys) : ∃ r', Conc ds N w0 S R0 m r0 (coeO1 k ts st) F r' a w := by
  unfold coeO1
  split
  · rename_i cs hcs
    split
    · rename_i hn
      have h1 := h.newNil ts
      have hjn := h.mem.dom _ _ hcs
      refine ⟨_, h1.setCell (j := (k - 1000000) / 1000) (i := (k - 1000000) % 1000) (k := st.nx) (cs := cs) ?_ (by rw [← nth_eq]; exact hn) (by rw [locPut_self]) (Nat.lt_succ_self _)⟩
      simp only [getH_cons, bif_beq]
      rw [if_neg (by omega)]
      exact hcs
    · exact ⟨r, h⟩
  · exact ⟨r, h⟩
theorem coeO_conc : ∀ {coes : List (Nat × Tys)} {st : St} {r : Loc}, Conc ds N w0 S R0 m r0 st F r a w → ∃ r', Conc ds N w0 S R0 m r0 (coeO coes st) F r' a w
  | [], st, r, h => ⟨r, h⟩
  | (k, ts) :: l, st, r, h => by
    simp only [coeO]
    cases Nat.ble 1000000 k with
    | true =>
      obtain ⟨r1, h1⟩ := coeO1_conc h k ts
      exact coeO_conc h1
    | false => exact coeO_conc h
theorem Conc.canon {st st' : St} {r : Loc} (h : Conc ds N w0 S R0 m r0 st F r a w) {coes : List (Nat × Tys)} {ks : List Nat} (hc : canon m coes ks st = some st') : ∃ r', Conc ds N w0 S R0 m r0 st' F r' a w := by
  unfold Sz.canon at hc
  obtain ⟨r1, h1, _, _⟩ := coeE_conc (coes := coes) (env := restrE (look st.env) ks) h.bare (fun x hx => by
    have hx := restrE_mem hx
    obtain ⟨v, g1, g2⟩ := h.env _ _ hx
    exact ⟨v, g1, g2, h.inn _ _ hx⟩)
  simp only at hc
  split at hc
  · rename_i st2 h2
    obtain ⟨r2, h3⟩ := h1.thaw.ren h2
    cases hb : hasO coes with
    | false =>
      rw [hb] at hc
      injection hc with hc; subst hc
      exact ⟨r2, h3⟩
    | true =>
      rw [hb] at hc
      simp only [cond_true] at hc
      obtain ⟨r4, h4⟩ := coeO_conc (coes := coes) h3
      exact h4.ren hc
  · cases hc
end
/-! ### Parts of one's own rows that are to be rows -/
def hs1 (k : Nat) (ts : Tys) (st : St) : Tree St := match look st.env k with
  | some (.p (.one (.hs j sz lo n mx))) => (baseT (getH st.hp) ts (.hs j sz lo n mx)).bind fun b => .ret ⟨(k, AV.c (.h st.nx)) :: st.env, (st.nx, .row ts b.1) :: (deads b.2 ++ st.hp), st.nx + 1⟩
  | _ => .ret st
def hsT : List (Nat × Tys) → St → Tree St
  | [], st => .ret st
  | (k, ts) :: l, st => (hs1 k ts st).bind (hsT l)
section
variable {ds : List Deferred} {N : Nat} {w0 : World} {S : Nat → Nat → Prop} {R0 : Frag} {m : Nat} {r0 : Loc} {F : Frag} {a : Act} {w : World}
theorem Conc.newOb {st : St} {r : Loc} (h : Conc ds N w0 S R0 m r0 st F r a w) {js : List Nat} (hjs : ∀ j ∈ js, j < st.nx) {d : Ld} {ob : Ob} (hob : ObIs F (locPut r st.nx d) d w ob) (hinn : ob.inn (fun j => j < st.nx ∨ j = st.nx))
    (hfoot : ∀ b o, ob.foot d b o → (∃ j ob0, j ∈ js ∧ getH st.hp j = some ob0 ∧ ob0.foot (r j) b o) ∨ w.heap.size ≤ b) :
    Conc ds N w0 S R0 m r0 ⟨st.env, (st.nx, ob) :: (deads js ++ st.hp), st.nx + 1⟩ F (locPut r st.nx d) a w := by
  have hn : ¬ st.nx < st.nx := Nat.lt_irrefl _
  have ha := locPut_agree (D := fun j => j < st.nx) r hn d
  refine ⟨h.defers, h.size, h.env.to h.inn (Frag.le_refl F) ha, fun k av hk => AV.inn_mono (fun j hj => Nat.lt_succ_of_lt hj) (h.inn k av hk), ?_, fun j hj => ?_, Nat.le_succ_of_le h.mle⟩
  · have := h.mem.fresh' hn (js := js) hjs (d := d) (ob := ob) (w' := w) hob hinn hfoot (Fr.refl _ _)
    have e : updH ((st.nx, ob) :: deads js) (getH st.hp) = getH ((st.nx, ob) :: (deads js ++ st.hp)) := updH_getH _ _
    rw [e] at this
    exact this.monoD fun j hj => by rcases hj with hj | hj <;> (show j < st.nx + 1; omega)
  · rw [ha j (Nat.lt_of_lt_of_le hj h.mle)]; exact h.par j hj
theorem hs1_conc (P : Program) {k : Nat} {ts : Tys} {st st' : St} {r : Loc} (h : Conc ds N w0 S R0 m r0 st F r a w) (hr : (hs1 k ts st).run = some st') : ∃ r', Conc ds N w0 S R0 m r0 st' F r' a w := by
  unfold hs1 at hr
  split at hr
  · rename_i j sz lo n mx hk
    obtain ⟨⟨l, js⟩, hb, hr⟩ := Tree.run_bind_some hr
    simp only [Tree.run, Option.some.injEq] at hr
    subst hr
    obtain ⟨v, hv, hrep⟩ := h.env k _ hk
    obtain ⟨a', b, o, cap, vs, rfl, B⟩ := baseT_run (P := P) (h.mem.sees.sub fun _ _ h => h) hb hrep
    have hjs : ∀ j ∈ js, j < st.nx := fun j hj => by
      obtain ⟨ob, ho⟩ := B.jsH j hj
      exact h.mem.dom j ob ho
    cases a' with
    | none =>
      obtain ⟨h0, h0'⟩ := B.non rfl
      subst h0 h0'
      have hc := h.newOb hjs (d := ⟨0, 0, .slice none 0 0⟩) (ob := .row ts []) (.inl ⟨rfl, rfl⟩) trivial (fun b o hfo => by
        obtain ⟨n, cap, e, _⟩ := hfo; simp at e)
      exact ⟨_, hc.cons (av := AV.c (.h st.nx)) hv ⟨by rw [locPut_self]; rfl, rfl⟩ (Nat.lt_succ_self _)⟩
    | some a0 =>
      have hp := B.ptr (by simp)
      injection hp with hp; subst hp
      have hc := h.newOb hjs (d := ⟨b, o, .slice (some ⟨b, o, none⟩) l.length cap⟩) (ob := .row ts l) (obIs_row B.vals B.le B.max (B.there (by simp)) (B.at_ (by simp))) trivial (fun bb p hfo => by
        obtain ⟨n, c, hh, rfl, p1, p2⟩ := hfo
        injection hh with _ _ hh; subst hh
        exact .inl (B.foot (by simp) p p1 p2))
      exact ⟨_, hc.cons (av := AV.c (.h st.nx)) hv ⟨by rw [locPut_self], rfl⟩ (Nat.lt_succ_self _)⟩
  · simp only [Tree.run, Option.some.injEq] at hr
    subst hr
    exact ⟨r, h⟩
theorem hsT_conc (P : Program) : ∀ {coes : List (Nat × Tys)} {st st' : St} {r : Loc}, Conc ds N w0 S R0 m r0 st F r a w → (hsT coes st).run = some st' → ∃ r', Conc ds N w0 S R0 m r0 st' F r' a w
  | [], st, st', r, h, hr => by
    simp only [hsT, Tree.run, Option.some.injEq] at hr
    subst hr; exact ⟨r, h⟩
  | (k, ts) :: l, st, st', r, h, hr => by
    obtain ⟨st1, h1, h2⟩ := Tree.run_bind_some hr
    obtain ⟨r1, hc⟩ := hs1_conc P h h1
    exact hsT_conc P hc h2
end
end Go.Sz
namespace Go.Sz
open Go Go.RowKit Go.Sy
set_option linter.unusedVariables false
set_option linter.unusedSimpArgs false
set_option linter.constructorNameAsVariable false
inductive ShC where
  | w (k : IntKind)
  | i (k : IntKind)
  | b
  | s
  | d (ts : Tys)
  | q (ts : Tys)
  | v
  | nilP
  | nilS
  | p (j off : Nat)
  | h (j : Nat)
  | hs (j sz : Nat)
  | clo (f : FuncId) (caps : List (Nat × Nat))
@[reducible] def ShC.den : ShC → Type
  | .w k => BitVec k.bits
  | .i _ => Int
  | .b => Bool
  | .s => ByteArray
  | .d ts => List ts.den
  | .q ts => ts.den
  | .v => Value
  | .hs _ _ => Nat × Nat × Option Nat
  | _ => Unit
def capP : List (Nat × Nat) → List Cap
  | [] => []
  | (j, o) :: l => .p j o :: capP l
def ShC.enc : (s : ShC) → s.den → Cell
  | .w k, x => .w k x
  | .i k, x => .v (.int k x)
  | .b, x => .v (.bool x)
  | .s, x => .v (.string x)
  | .d ts, x => .d ts x
  | .q ts, x => .q ts x
  | .v, x => .v x
  | .nilP, _ => .v (.pointer none)
  | .nilS, _ => .v (.slice none 0 0)
  | .p j o, _ => .p j o
  | .h j, _ => .h j
  | .hs j sz, x => .hs j sz x.1 x.2.1 x.2.2
  | .clo f c, _ => .clo f (capP c)
def eqCaps : List (Nat × Nat) → List Cap → Bool
  | [], [] => true
  | (j, o) :: l, .p j' o' :: l' => Nat.beq j j' && (Nat.beq o o' && eqCaps l l')
  | _, _ => false
theorem eqCaps_eq : ∀ {l : List (Nat × Nat)} {l' : List Cap}, eqCaps l l' = true → l' = capP l
  | [], [], _ => rfl
  | (j, o) :: l, .p j' o' :: l', h => by
    simp only [eqCaps, Bool.and_eq_true] at h
    rw [capP, ← Nat.eq_of_beq_eq_true h.1, ← Nat.eq_of_beq_eq_true h.2.1, eqCaps_eq h.2.2]
  | [], _ :: _, h => by simp [eqCaps] at h
  | (_, _) :: _, [], h => by simp [eqCaps] at h
  | (_, _) :: _, .v _ :: _, h => by simp [eqCaps] at h
  | (_, _) :: _, .w _ _ :: _, h => by simp [eqCaps] at h
  | (_, _) :: _, .h _ :: _, h => by simp [eqCaps] at h
  | (_, _) :: _, .d _ _ :: _, h => by simp [eqCaps] at h
  | (_, _) :: _, .q _ _ :: _, h => by simp [eqCaps] at h
  | (_, _) :: _, .y _ _ :: _, h => by simp [eqCaps] at h
def ShC.dec : (s : ShC) → Cell → Option s.den
  | .w k, .w k' x => if h : k' = k then some (castW h x) else none
  | .i k, .v (.int k' x) => if k' = k then some x else none
  | .b, .v (.bool x) => some x
  | .s, .v (.string x) => some x
  | .d ts, .d ts' l => toL ts l
  | .q ts, .q ts' x => toD ts x
  | .v, .v x => some x
  | .nilP, .v (.pointer none) => some ()
  | .nilS, .v (.slice none 0 0) => some ()
  | .p j o, .p j' o' => bif Nat.beq j' j && Nat.beq o' o then some () else none
  | .h j, .h j' => bif Nat.beq j' j then some () else none
  | .hs j sz, .hs j' sz' lo len mx => bif Nat.beq j' j && Nat.beq sz' sz then some (lo, len, mx) else none
  | .clo f c, .clo f' c' => bif Nat.beq f' f && eqCaps c c' then some () else none
  | _, _ => none
theorem toL_eq {ts ts' : Tys} {l : List ts.den} {l' : List ts'.den} (h : toL ts' l = some l') : Cell.d ts l = .d ts' l' := by
  unfold toL at h
  split at h
  · rename_i e
    have := Tys.eqb_eq e
    subst this
    injection h with h; subst h; rfl
  · cases h
theorem toD_eq {ts ts' : Tys} {x : ts.den} {x' : ts'.den} (h : toD ts' x = some x') : Cell.q ts x = .q ts' x' := by
  unfold toD at h
  split at h
  · rename_i e
    have := Tys.eqb_eq e
    subst this
    injection h with h; subst h; rfl
  · cases h
theorem toL_row {ts ts' : Tys} {l : List ts.den} {l' : List ts'.den} (h : toL ts' l = some l') : Ob.row ts l = .row ts' l' := by
  unfold toL at h
  split at h
  · rename_i e
    have := Tys.eqb_eq e
    subst this
    injection h with h; subst h; rfl
  · cases h
theorem ShC.dec_eq {s : ShC} {c : Cell} {x : s.den} (h : s.dec c = some x) : c = s.enc x := by
  unfold ShC.dec at h
  split at h
  · split at h
    · rename_i e; subst e; injection h with h; subst h; rfl
    · cases h
  · split at h
    · rename_i e; subst e; injection h with h; subst h; rfl
    · cases h
  · injection h with h; subst h; rfl
  · injection h with h; subst h; rfl
  · exact toL_eq h
  · exact toD_eq h
  · injection h with h; subst h; rfl
  · rfl
  · rfl
  · rename_i j o j' o'
    cases hb : (Nat.beq j' j && Nat.beq o' o) with
    | false => rw [hb] at h; cases h
    | true =>
      simp only [Bool.and_eq_true] at hb
      rw [Nat.eq_of_beq_eq_true hb.1, Nat.eq_of_beq_eq_true hb.2]; rfl
  · rename_i j j'
    cases hb : Nat.beq j' j with
    | false => rw [hb] at h; cases h
    | true => rw [Nat.eq_of_beq_eq_true hb]; rfl
  · rename_i j sz j' sz' lo len mx
    cases hb : (Nat.beq j' j && Nat.beq sz' sz) with
    | false => rw [hb] at h; cases h
    | true =>
      rw [hb] at h
      simp only [Bool.and_eq_true] at hb
      injection h with h; subst h
      rw [Nat.eq_of_beq_eq_true hb.1, Nat.eq_of_beq_eq_true hb.2]; rfl
  · rename_i f c f' c'
    cases hb : (Nat.beq f' f && eqCaps c c') with
    | false => rw [hb] at h; cases h
    | true =>
      simp only [Bool.and_eq_true] at hb
      rw [show f' = f from Nat.eq_of_beq_eq_true hb.1, eqCaps_eq hb.2]; rfl
  · cases h
/-! ### Lists of cells, values, objects -/
@[reducible] def denCs : List ShC → Type
  | [] => Unit
  | s :: l => s.den × denCs l
def encCs : (l : List ShC) → denCs l → List Cell
  | [], _ => []
  | s :: l, x => s.enc x.1 :: encCs l x.2
def decCs : (l : List ShC) → List Cell → Option (denCs l)
  | [], [] => some ()
  | s :: l, c :: cs => match s.dec c, decCs l cs with
    | some x, some y => some (x, y)
    | _, _ => none
  | _, _ => none
theorem decCs_eq : ∀ {l : List ShC} {cs : List Cell} {x : denCs l}, decCs l cs = some x → cs = encCs l x
  | [], [], _, _ => rfl
  | s :: l, c :: cs, x, h => by
    simp only [decCs] at h
    split at h
    · rename_i a b ha hb
      injection h with h; subst h
      rw [encCs, ← ShC.dec_eq ha, ← decCs_eq hb]
    · cases h
  | [], _ :: _, _, h => by cases h
  | _ :: _, [], _, h => by cases h
inductive ShP where
  | one (s : ShC)
  | many (l : List ShC)
@[reducible] def ShP.den : ShP → Type
  | .one s => s.den
  | .many l => denCs l
def ShP.enc : (s : ShP) → s.den → Part
  | .one s, x => .one (s.enc x)
  | .many l, x => .many (encCs l x)
def ShP.dec : (s : ShP) → Part → Option s.den
  | .one s, .one c => s.dec c
  | .many l, .many cs => decCs l cs
  | _, _ => none
theorem ShP.dec_eq {s : ShP} {c : Part} {x : s.den} (h : s.dec c = some x) : c = s.enc x := by
  cases s <;> cases c <;> simp only [ShP.dec] at h
  · rw [ShC.dec_eq h]; rfl
  · cases h
  · cases h
  · rw [decCs_eq h]; rfl
@[reducible] def denPs : List ShP → Type
  | [] => Unit
  | s :: l => s.den × denPs l
def encPs : (l : List ShP) → denPs l → List Part
  | [], _ => []
  | s :: l, x => s.enc x.1 :: encPs l x.2
def decPs : (l : List ShP) → List Part → Option (denPs l)
  | [], [] => some ()
  | s :: l, c :: cs => match s.dec c, decPs l cs with
    | some x, some y => some (x, y)
    | _, _ => none
  | _, _ => none
theorem decPs_eq : ∀ {l : List ShP} {cs : List Part} {x : denPs l}, decPs l cs = some x → cs = encPs l x
  | [], [], _, _ => rfl
  | s :: l, c :: cs, x, h => by
    simp only [decPs] at h
    split at h
    · rename_i a b ha hb
      injection h with h; subst h
      rw [encPs, ← ShP.dec_eq ha, ← decPs_eq hb]
    · cases h
  | [], _ :: _, _, h => by cases h
  | _ :: _, [], _, h => by cases h
inductive ShA where
  | p (s : ShP)
  | t (l : List ShP)
@[reducible] def ShA.den : ShA → Type
  | .p s => s.den
  | .t l => denPs l
def ShA.enc : (s : ShA) → s.den → AV
  | .p s, x => .p (s.enc x)
  | .t l, x => .t (encPs l x)
def ShA.dec : (s : ShA) → AV → Option s.den
  | .p s, .p c => s.dec c
  | .t l, .t cs => decPs l cs
  | _, _ => none
theorem ShA.dec_eq {s : ShA} {c : AV} {x : s.den} (h : s.dec c = some x) : c = s.enc x := by
  cases s <;> cases c <;> simp only [ShA.dec] at h
  · rw [ShP.dec_eq h]; rfl
  · cases h
  · cases h
  · rw [decPs_eq h]; rfl
@[reducible] def ShA.c (s : ShC) : ShA := .p (.one s)
def Vt.eqb : Vt → Vt → Bool
  | .one t, .one t' => t.eqb t'
  | .many ts, .many ts' => ts.eqb ts'
  | _, _ => false
theorem Vt.eqb_eq {a b : Vt} (h : a.eqb b = true) : a = b := by
  cases a <;> cases b <;> simp only [Vt.eqb] at h
  · rw [Ty.eqb_eq h]
  · cases h
  · cases h
  · rw [Tys.eqb_eq h]
theorem mp_eq {kt kt' : Ty} {vt vt' : Vt} (h : (kt'.eqb kt && vt'.eqb vt) = true) : kt' = kt ∧ vt' = vt := by
  simp only [Bool.and_eq_true] at h
  exact ⟨Ty.eqb_eq h.1, Vt.eqb_eq h.2⟩
def castM {kt kt' : Ty} {vt vt' : Vt} (h : (kt'.eqb kt && vt'.eqb vt) = true) (l : List (kt'.den × vt'.den)) : List (kt.den × vt.den) := (mp_eq h).1 ▸ (mp_eq h).2 ▸ l
theorem castM_eq {kt kt' : Ty} {vt vt' : Vt} (h : (kt'.eqb kt && vt'.eqb vt) = true) (l : List (kt'.den × vt'.den)) : Ob.mp kt' vt' l = .mp kt vt (castM h l) := by
  obtain ⟨rfl, rfl⟩ := mp_eq h
  rfl
inductive ShO where
  | lit (l : List ShC)
  | row (ts : Tys)
  | mp (kt : Ty) (vt : Vt)
  | dead
@[reducible] def ShO.den : ShO → Type
  | .lit l => denCs l
  | .row ts => List ts.den
  | .mp kt vt => List (kt.den × vt.den)
  | .dead => Unit
def ShO.enc : (s : ShO) → s.den → Ob
  | .lit l, x => .lit (encCs l x)
  | .row ts, x => .row ts x
  | .mp kt vt, x => .mp kt vt x
  | .dead, _ => .dead
def ShO.dec : (s : ShO) → Ob → Option s.den
  | .lit l, .lit cs => decCs l cs
  | .row ts, .row _ l => toL ts l
  | .mp kt vt, .mp kt' vt' l => if h : (kt'.eqb kt && vt'.eqb vt) = true then some (castM h l) else none
  | .dead, .dead => some ()
  | _, _ => none
theorem ShO.dec_eq {s : ShO} {c : Ob} {x : s.den} (h : s.dec c = some x) : c = s.enc x := by
  cases s <;> cases c <;> simp only [ShO.dec] at h <;> try (cases h; done)
  · rw [decCs_eq h]; rfl
  · exact toL_row h
  · split at h
    · injection h with h; subst h; exact castM_eq _ _
    · cases h
  · rfl
@[reducible] def denEnv : List (Nat × ShA) → Type
  | [] => Unit
  | s :: l => s.2.den × denEnv l
def encEnv : (l : List (Nat × ShA)) → denEnv l → Env
  | [], _ => []
  | s :: l, x => (s.1, s.2.enc x.1) :: encEnv l x.2
def decEnv : (l : List (Nat × ShA)) → Env → Option (denEnv l)
  | [], [] => some ()
  | s :: l, c :: cs => bif Nat.beq c.1 s.1 then match s.2.dec c.2, decEnv l cs with
    | some x, some y => some (x, y)
    | _, _ => none
    else none
  | _, _ => none
theorem decEnv_eq : ∀ {l : List (Nat × ShA)} {cs : Env} {x : denEnv l}, decEnv l cs = some x → cs = encEnv l x
  | [], [], _, _ => rfl
  | s :: l, (k, c) :: cs, x, h => by
    simp only [decEnv] at h
    cases hb : Nat.beq k s.1 with
    | false => rw [hb] at h; cases h
    | true =>
      rw [hb] at h
      simp only [cond_true] at h
      split at h
      · rename_i a b ha hb'
        injection h with h; subst h
        rw [encEnv, ← ShA.dec_eq ha, ← decEnv_eq hb', Nat.eq_of_beq_eq_true hb]
      · cases h
  | [], _ :: _, _, h => by cases h
  | _ :: _, [], _, h => by cases h
@[reducible] def denObs : List ShO → Type
  | [] => Unit
  | s :: l => s.den × denObs l
def encObs : (l : List ShO) → denObs l → Nat → Hp
  | [], _, _ => []
  | s :: l, x, k => (k, s.enc x.1) :: encObs l x.2 (k + 1)
def decObs : (l : List ShO) → Hp → Nat → Option (denObs l)
  | [], [], _ => some ()
  | s :: l, c :: cs, k => bif Nat.beq c.1 k then match s.dec c.2, decObs l cs (k + 1) with
    | some x, some y => some (x, y)
    | _, _ => none
    else none
  | _, _, _ => none
theorem decObs_eq : ∀ {l : List ShO} {cs : Hp} {k : Nat} {x : denObs l}, decObs l cs k = some x → cs = encObs l x k
  | [], [], _, _, _ => rfl
  | s :: l, (k, c) :: cs, k', x, h => by
    simp only [decObs] at h
    cases hb : Nat.beq k k' with
    | false => rw [hb] at h; cases h
    | true =>
      rw [hb] at h
      simp only [cond_true] at h
      split at h
      · rename_i a b ha hb'
        injection h with h; subst h
        rw [encObs, ← ShO.dec_eq ha, ← decObs_eq hb', Nat.eq_of_beq_eq_true hb]
      · cases h
  | [], _ :: _, _, _, h => by cases h
  | _ :: _, [], _, _, h => by cases h
structure Shape where
  env : List (Nat × ShA)
  hp : List ShO
@[reducible] def Shape.den (s : Shape) : Type := denEnv s.env × denObs s.hp
def Shape.enc (s : Shape) (x : s.den) : St := ⟨encEnv s.env x.1, encObs s.hp x.2 0, s.hp.length⟩
def Shape.dec (s : Shape) (st : St) : Option s.den := bif Nat.beq st.nx s.hp.length then match decEnv s.env st.env, decObs s.hp st.hp 0 with
    | some x, some y => some (x, y)
    | _, _ => none
  else none
theorem Shape.dec_eq {s : Shape} {st : St} {x : s.den} (h : s.dec st = some x) : st = s.enc x := by
  unfold Shape.dec at h
  cases hb : Nat.beq st.nx s.hp.length with
  | false => rw [hb] at h; cases h
  | true =>
    rw [hb] at h
    simp only [cond_true] at h
    split at h
    · rename_i a b ha hb'
      injection h with h; subst h
      obtain ⟨e, hp, n⟩ := st
      simp only at ha hb' hb
      rw [Shape.enc, ← decEnv_eq ha, ← decObs_eq hb', Nat.eq_of_beq_eq_true hb]
    · cases h
end Go.Sz
