/-
  Scalars: bounds of the operations, ranges by comparisons.
-/
import Derived.Test.YtlaaljiffcablaaGreatDoorScX
namespace Go.Sc
open Go Go.Sy Go.Tn
set_option linter.unusedSimpArgs false
set_option linter.unusedVariables false

theorem sumsI_u (a b k : Sc) : (sumsI a b k).u = k.u ∧ (sumsI a b k).U = k.U := by
  unfold sumsI setS
  cases ovA a.s b.s <;> cases ovA a.S b.S <;> exact ⟨rfl, rfl⟩
theorem restsI_u (a b k : Sc) : (restsI a b k).u = k.u ∧ (restsI a b k).U = k.U := by
  unfold restsI setS
  cases ovS a.s b.S <;> cases ovS a.S b.s <;> exact ⟨rfl, rfl⟩
section
variable {a b : Sc} {x y : BitVec 64}
theorem add_tight (ga : Good a) (gb : Good b) (hx : Has a x) (hy : Has b y) (h : a.U.toNat + b.U.toNat < 18446744073709551616) :
    (a.u + b.u).toNat ≤ (doS 0 true a b).u.toNat ∧ (doS 0 true a b).U.toNat ≤ (a.U + b.U).toNat := by
  have hw := wide_bounds ga gb hx hy (op := 0) (.inl rfl)
  have e : whole 0 a b = sums a b (base (Tn.add a.t b.t)) := rfl
  rw [e] at hw
  unfold sums at hw
  obtain ⟨e1, e2⟩ := sumsI_u a b (sumsU a b (base (Tn.add a.t b.t)))
  rw [e1, e2] at hw
  have e3 : sumsU a b (base (Tn.add a.t b.t)) = setU (base (Tn.add a.t b.t)) (a.u + b.u) (a.U + b.U) := by
    unfold sumsU; rw [decide_eq_true h]; rfl
  rw [e3] at hw
  exact hw
theorem sub_tight (ga : Good a) (gb : Good b) (hx : Has a x) (hy : Has b y) (h : BitVec.ule b.U a.u = true) :
    (a.u - b.U).toNat ≤ (doS 1 true a b).u.toNat ∧ (doS 1 true a b).U.toNat ≤ (a.U - b.u).toNat := by
  have hw := wide_bounds ga gb hx hy (op := 1) (.inr (.inl rfl))
  have e : whole 1 a b = rests a b (base (Tn.sub a.t b.t)) := rfl
  rw [e] at hw
  unfold rests at hw
  obtain ⟨e1, e2⟩ := restsI_u a b (restsU a b (base (Tn.sub a.t b.t)))
  rw [e1, e2] at hw
  have e3 : restsU a b (base (Tn.sub a.t b.t)) = setU (base (Tn.sub a.t b.t)) (a.u - b.U) (a.U - b.u) := by
    unfold restsU; rw [h]; rfl
  rw [e3] at hw
  exact hw
theorem and_tight (ga : Good a) (gb : Good b) (hx : Has a x) (hy : Has b y) : (doS 5 true a b).U.toNat ≤ (minU a.U b.U).toNat :=
  (wide_bounds ga gb hx hy (op := 5) (by unfold opN; decide)).2
theorem mod_tight (ga : Good a) (hx : Has a x) {k : BitVec 64} (hk : 0 < k.toNat) : (doS 9 true a (const k)).U.toNat < k.toNat := by
  have hw := (wide_bounds ga (const_good k) hx (const_has.2 rfl) (op := 9) (by unfold opN; decide)).2
  have e : whole 9 a (const k) = mods a (const k) := rfl
  rw [e] at hw
  have hu : BitVec.ult zW (const k).u = true := ult_iff.2 (by
    have : (zW : BitVec 64).toNat = 0 := by decide
    rw [this]; exact hk)
  unfold mods at hw
  rw [hu] at hw
  simp only [cond_true] at hw
  have e2 : (minU a.U ((const k).U - BitVec.ofInt 64 1)).toNat ≤ k.toNat - 1 := by
    rw [minU_nat]
    have : ((const k).U - BitVec.ofInt 64 1).toNat = k.toNat - 1 := by
      show (k - BitVec.ofInt 64 1).toNat = _
      have h1 : (BitVec.ofInt 64 1).toNat = 1 := by decide
      rw [BitVec.toNat_sub, h1]
      have := k.isLt
      omega
    rw [this]; omega
  have e3 : (doS 9 true a (const k)).U.toNat ≤ (minU a.U ((const k).U - BitVec.ofInt 64 1)).toNat := hw
  omega
/-- the shift's number, out of a constant below 64 -/
theorem by_const {n : BitVec 64} (hn : n.toNat < 64) : ((const n).u % BitVec.ofInt 64 64).toInt.toNat = n.toNat ∧ isConst (const n) = true := by
  refine ⟨?_, rfl⟩
  have h64 : (BitVec.ofInt 64 64).toNat = 64 := by decide
  have e : ((const n).u % BitVec.ofInt 64 64) = n := by
    apply BitVec.eq_of_toNat_eq
    show (n % BitVec.ofInt 64 64).toNat = _
    rw [BitVec.toNat_umod, h64, Nat.mod_eq_of_lt hn]
  rw [e]
  rcases toInt_cases n with ⟨_, h⟩ | ⟨h, _⟩
  · rw [h]; exact Int.toNat_natCast _
  · omega
theorem rsh_tight (ga : Good a) (hx : Has a x) {n : BitVec 64} (hn : n.toNat < 64) : (doS 7 true a (const n)).U.toNat ≤ (a.U >>> n.toNat).toNat := by
  have hw := (wide_bounds ga (const_good n) hx (const_has.2 rfl) (op := 7) (by unfold opN; decide)).2
  obtain ⟨e1, e2⟩ := by_const hn
  have e : whole 7 a (const n) = shR a ((const n).u % BitVec.ofInt 64 64).toInt all := rfl
  rw [e] at hw
  unfold shR at hw
  rw [e1] at hw
  exact hw
theorem lsh_tight (ga : Good a) (hx : Has a x) {n : BitVec 64} (hn : n.toNat < 64) (h : BitVec.ule a.U (full >>> n.toNat) = true) : (doS 6 true a (const n)).U.toNat ≤ (a.U <<< n.toNat).toNat := by
  have hw := (wide_bounds ga (const_good n) hx (const_has.2 rfl) (op := 6) (by unfold opN; decide)).2
  obtain ⟨e1, e2⟩ := by_const hn
  have e : whole 6 a (const n) = shL a ((const n).u % BitVec.ofInt 64 64).toInt all := rfl
  rw [e] at hw
  unfold shL at hw
  rw [e1, h] at hw
  exact hw
theorem mul_tight (ga : Good a) (hx : Has a x) {k : BitVec 64} (h : a.U.toNat * k.toNat < 18446744073709551616) : (doS 2 true a (const k)).U.toNat ≤ (a.U * k).toNat := by
  have hw := (wide_bounds ga (const_good k) hx (const_has.2 rfl) (op := 2) (by unfold opN; decide)).2
  have e : whole 2 a (const k) = products a (const k) (base (Tn.mul a.t (const k).t)) := rfl
  rw [e] at hw
  unfold products at hw
  rw [decide_eq_true (show a.U.toNat * (const k).U.toNat < 18446744073709551616 from h)] at hw
  exact hw
end

/-! ### A number between two, by two comparisons -/
theorem ge_bound {a s u : Sc} {l : BitVec 64} (ga : Good a) (h : branch 3 true true a (const l) = some (s, u)) : l.toNat ≤ s.u.toNat := by
  unfold branch at h
  rw [right_of ga.st, right_of (const_good l).st] at h
  unfold branch' at h
  have hc : cmpOk 3 = true := rfl
  rw [hc] at h
  simp only [Bool.not_true, cond_false] at h
  cases hd : (bif (decided 3 true a (const l)).1 then (decided 3 true a (const l)).2 != true else false) with
  | true => rw [hd] at h; cases h
  | false =>
    rw [hd] at h
    simp only [cond_false] at h
    have eg : goes 3 true ⟨a, const l, false⟩ = holds 3 ⟨a, const l, false⟩ := by
      unfold goes
      rw [show decide ((3 : Int) = 4) = false from rfl]
      simp only [cond_false, cond_true]
    rw [eg, holds_other (o := 11) _ (by decide) (by decide), holds0_11] at h
    unfold close2 at h
    cases hn : (swapP (less ⟨const l, a, false⟩ true)).n with
    | true => rw [hn] at h; cases h
    | false =>
      rw [hn] at h
      simp only [cond_false] at h
      cases h1 : sync (swapP (less ⟨const l, a, false⟩ true)).a with
      | none => rw [h1] at h; cases h
      | some q =>
        cases h2 : sync (swapP (less ⟨const l, a, false⟩ true)).b with
        | none => rw [h1, h2] at h; cases h
        | some v =>
          rw [h1, h2] at h
          injection h with h
          injection h with h3 h4
          subst h3
          obtain ⟨_, hs, _⟩ := sync_some _ h1
          have hu := hs.u
          have hn' : (less ⟨const l, a, false⟩ true).n = false := hn
          have hb : (swapP (less ⟨const l, a, false⟩ true)).a = (less ⟨const l, a, false⟩ true).b := rfl
          rw [hb] at hu
          unfold less at hn' hu
          cases hcnd : (bif BitVec.ult a.U (bif true then BitVec.ofInt 64 0 else BitVec.ofInt 64 1) then true else BitVec.ult (full - (bif true then BitVec.ofInt 64 0 else BitVec.ofInt 64 1)) (const l).u) with
          | true => rw [hcnd] at hn'; cases hn'
          | false =>
            rw [hcnd] at hu
            simp only [cond_false, cond_true, maxU_nat] at hu
            have : ((const l).u + BitVec.ofInt 64 0).toNat = l.toNat := by
              show (l + BitVec.ofInt 64 0).toNat = _
              have h0 : (BitVec.ofInt 64 0).toNat = 0 := by decide
              rw [BitVec.toNat_add, h0, Nat.add_zero, Nat.mod_eq_of_lt l.isLt]
            rw [this] at hu
            omega
theorem le_bound {a s u : Sc} {l : BitVec 64} (ga : Good a) (h : branch 11 true true a (const l) = some (s, u)) : s.U.toNat ≤ l.toNat := by
  unfold branch at h
  rw [right_of ga.st, right_of (const_good l).st] at h
  unfold branch' at h
  have hc : cmpOk 11 = true := rfl
  rw [hc] at h
  simp only [Bool.not_true, cond_false] at h
  cases hd : (bif (decided 11 true a (const l)).1 then (decided 11 true a (const l)).2 != true else false) with
  | true => rw [hd] at h; cases h
  | false =>
    rw [hd] at h
    simp only [cond_false] at h
    have eg : goes 11 true ⟨a, const l, false⟩ = holds 11 ⟨a, const l, false⟩ := by
      unfold goes
      rw [show decide ((11 : Int) = 4) = false from rfl]
      simp only [cond_false, cond_true]
    rw [eg, holds_base _ (by decide), holds0_11] at h
    unfold close2 at h
    cases hn : (less ⟨a, const l, false⟩ true).n with
    | true => rw [hn] at h; cases h
    | false =>
      rw [hn] at h
      simp only [cond_false] at h
      cases h1 : sync (less ⟨a, const l, false⟩ true).a with
      | none => rw [h1] at h; cases h
      | some q =>
        cases h2 : sync (less ⟨a, const l, false⟩ true).b with
        | none => rw [h1, h2] at h; cases h
        | some v =>
          rw [h1, h2] at h
          injection h with h
          injection h with h3 h4
          subst h3
          obtain ⟨_, hs, _⟩ := sync_some _ h1
          have hu := hs.U
          unfold less at hn hu
          cases hcnd : (bif BitVec.ult (const l).U (bif true then BitVec.ofInt 64 0 else BitVec.ofInt 64 1) then true else BitVec.ult (full - (bif true then BitVec.ofInt 64 0 else BitVec.ofInt 64 1)) a.u) with
          | true => rw [hcnd] at hn; cases hn
          | false =>
            rw [hcnd] at hu
            simp only [cond_false, cond_true, minU_nat] at hu
            have : ((const l).U - BitVec.ofInt 64 0).toNat = l.toNat := by
              show (l - BitVec.ofInt 64 0).toNat = _
              have h0 : (BitVec.ofInt 64 0).toNat = 0 := by decide
              have := l.isLt
              rw [BitVec.toNat_sub, h0]; omega
            rw [this] at hu
            omega

/-! ### Masks -/
theorem low_sub_le {k : Sc} {x : BitVec 64} (hx : Has k x) (h : BitVec.ule k.U max32 = true) : (low k).U.toNat ≤ k.U.toNat := by
  have := (low_hr hx).2.U
  rw [h] at this
  exact this
theorem mask_le {a : Sc} {x k : BitVec 64} (ga : Good a) (hx : Has a x) (w : Bool) : (doS 5 w a (const k)).U.toNat ≤ k.toNat := by
  cases w with
  | true =>
    have h := and_tight ga (const_good k) hx (const_has.2 rfl)
    rw [minU_nat] at h
    have : (const k).U = k := rfl
    rw [this] at h; omega
  | false =>
    have hlk : (lo k).toNat ≤ k.toNat := by rw [lo_nat]; omega
    have hm : max32.toNat = 4294967295 := by decide
    rw [doS_eq ga (const_good k)]
    unfold do'
    rw [show opOk 5 = true from rfl, show decide ((5 : Int) = 11) = false from rfl]
    simp only [cond_true, cond_false]
    cases hk : (bif (bif isConst a then isConst (const k) else false) then true else bif isConst a then decide ((5 : Int) = 8) else false) with
    | true =>
      simp only [cond_true]
      show (alu 5 false a.u (const k).u).toNat ≤ _
      rw [alu_part rfl]
      show (lo (lo a.u &&& lo k)).toNat ≤ _
      rw [lo_nat, BitVec.toNat_and]
      have : (lo a.u).toNat &&& (lo k).toNat ≤ (lo k).toNat := Nat.and_le_right
      have := Nat.mod_le ((lo a.u).toNat &&& (lo k).toNat) 4294967296
      omega
    | false =>
      simp only [cond_false]
      have hp := part_hr (op := 5) hx (const_has (n := k) (x := k).2 rfl) (by unfold opN; decide)
      have hs := hp.synced.2.2.U
      refine Nat.le_trans hs ?_
      have la := low_hr hx
      have lb := low_hr (k := const k) (x := k) (const_has.2 rfl)
      have hw : HR (whole 5 (low a) (low (const k))) (opf 5 64 (lo x) (lo k)) := whole_hr (low_good a) (low_good _) la.1 lb.1 (by unfold opN; decide)
      have hy := hw.synced
      have e : part 5 a (const k) = low (synced (whole 5 (low a) (low (const k)))) := rfl
      rw [e]
      have ec : low (const k) = const (lo k) := const_uniq (low_good _) (low_const k) lb.1
      have hU : (synced (whole 5 (low a) (low (const k)))).U.toNat ≤ (lo k).toNat := by
        refine Nat.le_trans hy.2.2.U ?_
        show (minU (low a).U (low (const k)).U).toNat ≤ _
        rw [minU_nat, ec]
        show min _ (lo k).toNat ≤ _
        omega
      have hlt : (lo k).toNat ≤ 4294967295 := by rw [lo_nat]; omega
      have := low_sub_le hy.2.1 (ule_iff.2 (by rw [hm]; omega))
      omega
end Go.Sc
namespace Go.Sy
open Go Go.RowKit Go.ChangeShapes Go.WideShapes
/-- A call whose arguments name no object, out of its evaluation, with oracles. -/
theorem calls_of_flatL {K : Know} {P : Program} {T : FuncId → Option Summ} (hT : TOk K P T) (hm : P.follows .mixedOrders = true) {f : FuncId} {fn : Func} {c : Code} (hf : P.funcs[f]? = some fn) (hb : fn.body = some c)
    (fuel : Nat) {L : LT} (hL : LOk P T fn.ntmps fuel L c) {args : List AV} {v : AV} (h : (evalFnL P T fuel L fn c args []).run = some (v, [])) (ha : ∀ a ∈ args, a.lt 0) (W : World) (hk : K.ok W) :
    Calls P f (args.map (AV.den fun _ => (0, 0))).toArray W fun e W' => e = .returned (v.den fun _ => (0, 0)) ∧ Below W.heap.size W W' :=
  (evalFnL_calls hT hm hf hb hL (r := fun _ => (0, 0)) (w := W) h ha (fun l hl => by cases hl) (fun j l hj => by simp at hj) (fun j j' l l' i i' hj => by simp at hj) hk (fun b o _ ⟨j, l, i, hj, _⟩ => by simp at hj)).mono
    fun e W' ⟨h1, _, h3, _⟩ => ⟨h1, h3.below fun b o ⟨j, l, i, hj, _⟩ => by simp at hj⟩
/-- A law of flat parameters, out of its evaluation, with oracles. -/
theorem law_flatL {K : Know} {H : Type} {enc : TypeId × Value → H} {P : Program} {T : FuncId → Option Summ} (hT : TOk K P T) (hm : P.follows .mixedOrders = true) {f : FuncId} {fn : Func} {c : Code} (hf : P.funcs[f]? = some fn) (hb : fn.body = some c)
    (fuel n : Nat) {L : LT} (hL : LOk P T fn.ntmps fuel L c) {sh : List Sh} (hsh : shAll P n fn.params.toList = some sh) (hev : ∀ l, FA sh l → (evalFnL P T fuel L fn c l []).run = some (AV.b true, []))
    (W : World) (hk : K.ok W) (base : Nat) (args : Array Value) (ds : List (DataW H)) (before : List MemPlace) (hval : ∀ (j : Nat) t v, fn.params[j]? = some t → args[j]? = some v → Value.okWide P W .any base t v)
    (h : DataW.TrodAll enc P W 0 (fun _ => true) true fn.params.toList args.toList ds before) : Calls P f args W fun e W' => e = .returned (.bool true) ∧ Below W.heap.size W W' := by
  obtain ⟨l, hl, he⟩ := flat_all _ _ _ _ sh hsh (fun j t v ht hv => hval j t v (by rw [← Array.getElem?_toList]; exact ht) (by rw [← Array.getElem?_toList]; exact hv)) h
  have ha : args = (l.map (AV.den fun _ => (0, 0))).toArray := by rw [← he]
  rw [ha]
  exact (calls_of_flatL hT hm hf hb fuel hL (hev l hl) (FA_lt hl) W hk).mono fun e W' h' => h'
end Go.Sy
