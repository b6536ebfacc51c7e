/-
  Scalars: branches lose no pair that goes their way, and let in nothing that was not there.
-/
import Derived.Test.YtlaaljiffcablaaGreatDoorScR
namespace Go.Sc
open Go Go.Sy Go.Tn
set_option linter.unusedSimpArgs false
set_option linter.unusedVariables false

def c64 (op : Int) (x y : BitVec 64) : Bool := cmpU op x y x.toInt y.toInt

/-- Two scalars within two others, their signed ranges right. -/
structure PS (p q : Pr) : Prop where
  a : Sub p.a q.a
  b : Sub p.b q.b
  ra : Rg p.a
  rb : Rg p.b
  oa : ok p.a.t = true
  ob : ok p.b.t = true

theorem ps_self {p : Pr} (ga : Good p.a) (gb : Good p.b) : PS p p := ⟨Sub.refl ga.ok, Sub.refl gb.ok, ga.rg, gb.rg, ga.ok, gb.ok⟩

section
variable {p : Pr}
@[reducible] def st64 (e : Bool) : BitVec 64 := bif e then BitVec.ofInt 64 0 else BitVec.ofInt 64 1
theorem st64_nat (e : Bool) : (st64 e).toNat = bif e then 0 else 1 := by cases e <;> rfl

theorem less_ps (ga : Good p.a) (gb : Good p.b) (e : Bool) (hn : (less p e).n = false) : PS (less p e) p := by
  unfold less at hn ⊢
  cases hc : (bif BitVec.ult p.b.U (st64 e) then true else BitVec.ult (full - (st64 e)) p.a.u) with
  | true => rw [hc] at hn; cases hn
  | false =>
    refine ⟨⟨inn_refl ga.ok, Nat.le_refl _, ?_, Int.le_refl _, Int.le_refl _⟩, ⟨inn_refl gb.ok, ?_, Nat.le_refl _, Int.le_refl _, Int.le_refl _⟩, ⟨ga.rg.a, ga.rg.b, ga.rg.c, ga.rg.d⟩, ⟨gb.rg.a, gb.rg.b, gb.rg.c, gb.rg.d⟩, ga.ok, gb.ok⟩
    · simp only [cond_false, minU_nat]; omega
    · simp only [cond_false, maxU_nat]; omega

theorem less_has {x y : BitVec 64} (hx : Has p.a x) (hy : Has p.b y) (e : Bool) (hxy : bif e then x.toNat ≤ y.toNat else x.toNat < y.toNat) (hn : p.n = false) :
    (less p e).n = false ∧ Has (less p e).a x ∧ Has (less p e).b y := by
  have h1 := hx.u; have h2 := hx.U; have h3 := hy.u; have h4 := hy.U
  have hs := st64_nat e
  have hf : full.toNat = 18446744073709551615 := by decide
  have l1 := x.isLt; have l2 := y.isLt; have l3 := p.b.U.isLt; have l4 := p.a.u.isLt
  have e1 : (full - st64 e).toNat = 18446744073709551615 - (bif e then 0 else 1) := by
    rw [BitVec.toNat_sub, hs, hf]; cases e <;> simp
  have hc : (bif BitVec.ult p.b.U (st64 e) then true else BitVec.ult (full - (st64 e)) p.a.u) = false := by
    have c1 : BitVec.ult p.b.U (st64 e) = false := ult_not.2 (by rw [hs]; cases e <;> simp at hxy ⊢ <;> omega)
    have c2 : BitVec.ult (full - (st64 e)) p.a.u = false := ult_not.2 (by rw [e1]; cases e <;> simp at hxy ⊢ <;> omega)
    rw [c1, c2]; rfl
  unfold less
  have hc' : (bif BitVec.ult p.b.U (bif e then BitVec.ofInt 64 0 else BitVec.ofInt 64 1) then true else BitVec.ult (full - (bif e then BitVec.ofInt 64 0 else BitVec.ofInt 64 1)) p.a.u) = false := hc
  rw [hc']
  refine ⟨hn, ⟨hx.ok, hx.t, h1, ?_, hx.s, hx.S⟩, ⟨hy.ok, hy.t, ?_, h4, hy.s, hy.S⟩⟩
  · show x.toNat ≤ (minU p.a.U (p.b.U - st64 e)).toNat
    rw [minU_nat, BitVec.toNat_sub, hs]
    cases e <;> simp at hxy ⊢ <;> omega
  · show (maxU p.b.u (p.a.u + st64 e)).toNat ≤ y.toNat
    rw [maxU_nat, BitVec.toNat_add, hs]
    cases e <;> simp at hxy ⊢ <;> omega

theorem stepI (e : Bool) : addI iMin (bif e then 0 else 1) = iMin + (bif e then 0 else 1) ∧ subI iMax (bif e then 0 else 1) = iMax - (bif e then 0 else 1) := by cases e <;> exact ⟨by decide, by decide⟩

theorem lessS_ps (ga : Good p.a) (gb : Good p.b) (e : Bool) (hn : (lessS p e).n = false) : PS (lessS p e) p := by
  have r1 := ga.rg.a; have r2 := ga.rg.b; have r3 := ga.rg.c; have r4 := ga.rg.d
  have r5 := gb.rg.a; have r6 := gb.rg.b; have r7 := gb.rg.c; have r8 := gb.rg.d
  unfold lessS at hn ⊢
  by_cases c1 : p.b.S < addI iMin (bif e then 0 else 1)
  · rw [decide_eq_true c1] at hn; cases hn
  · by_cases c2 : subI iMax (bif e then 0 else 1) < p.a.s
    · rw [decide_eq_false c1, decide_eq_true c2] at hn; cases hn
    · rw [decide_eq_false c1, decide_eq_false c2]
      rw [(stepI e).1] at c1
      rw [(stepI e).2] at c2
      have w1 : subI p.b.S (bif e then 0 else 1) = p.b.S - (bif e then 0 else 1) := by
        unfold subI; rw [wrap_in] <;> simp only [iMin, iMax] at * <;> cases e <;> simp at * <;> omega
      have w2 : addI p.a.s (bif e then 0 else 1) = p.a.s + (bif e then 0 else 1) := by
        unfold addI; rw [wrap_in] <;> simp only [iMin, iMax] at * <;> cases e <;> simp at * <;> omega
      rw [w1, w2]
      refine ⟨⟨inn_refl ga.ok, Nat.le_refl _, Nat.le_refl _, Int.le_refl _, ?_⟩, ⟨inn_refl gb.ok, Nat.le_refl _, Nat.le_refl _, ?_, Int.le_refl _⟩, ⟨r1, r2, ?_, ?_⟩, ⟨?_, ?_, r7, r8⟩, ga.ok, gb.ok⟩ <;>
        simp only [cond_false, minI_eq, maxI_eq, iMin, iMax] at * <;> cases e <;> simp at * <;> omega

theorem lessS_has {x y : BitVec 64} (ga : Good p.a) (gb : Good p.b) (hx : Has p.a x) (hy : Has p.b y) (e : Bool) (hxy : bif e then x.toInt ≤ y.toInt else x.toInt < y.toInt) (hn : p.n = false) :
    (lessS p e).n = false ∧ Has (lessS p e).a x ∧ Has (lessS p e).b y := by
  have h1 := hx.s; have h2 := hx.S; have h3 := hy.s; have h4 := hy.S
  have g1 := toInt_rg x; have g2 := toInt_rg y
  have r1 := ga.rg.a; have r4 := gb.rg.d
  have c1 : ¬ p.b.S < addI iMin (bif e then 0 else 1) := by
    rw [(stepI e).1]; simp only [iMin, iMax] at *; cases e <;> simp at * <;> omega
  have c2 : ¬ subI iMax (bif e then 0 else 1) < p.a.s := by
    rw [(stepI e).2]; simp only [iMin, iMax] at *; cases e <;> simp at * <;> omega
  have w1 : subI p.b.S (bif e then 0 else 1) = p.b.S - (bif e then 0 else 1) := by
    rw [(stepI e).1] at c1
    unfold subI; rw [wrap_in] <;> simp only [iMin, iMax] at * <;> cases e <;> simp at * <;> omega
  have w2 : addI p.a.s (bif e then 0 else 1) = p.a.s + (bif e then 0 else 1) := by
    rw [(stepI e).2] at c2
    unfold addI; rw [wrap_in] <;> simp only [iMin, iMax] at * <;> cases e <;> simp at * <;> omega
  unfold lessS
  rw [decide_eq_false c1, decide_eq_false c2, w1, w2]
  refine ⟨hn, ⟨hx.ok, hx.t, hx.u, hx.U, h1, ?_⟩, ⟨hy.ok, hy.t, hy.u, hy.U, ?_, h4⟩⟩
  · simp only [cond_false, minI_eq]; cases e <;> simp at * <;> omega
  · simp only [cond_false, maxI_eq]; cases e <;> simp at * <;> omega
end

/-! ### Meeting -/
def meetP (a b : Sc) : Sc := ⟨Tn.meet a.t b.t, maxU a.u b.u, minU a.U b.U, maxI a.s b.s, minI a.S b.S⟩
theorem meetS_eq {a b : Sc} (ga : Good a) (gb : Good b) : meetS a b = bif meetOk a.t b.t then sync (meetP a b) else none := by
  unfold meetS; rw [right_of ga.st, right_of gb.st]; rfl
theorem meetP_rg {a b : Sc} (ga : Good a) (gb : Good b) : Rg (meetP a b) := by
  obtain ⟨a1, a2, a3, a4⟩ := ga.rg
  obtain ⟨b1, b2, b3, b4⟩ := gb.rg
  simp only [iMin, iMax] at *
  constructor <;> simp only [meetP, minI_eq, maxI_eq, iMin, iMax] <;> omega
theorem meetS_some {a b m : Sc} (ga : Good a) (gb : Good b) (h : meetS a b = some m) : Good m ∧ Sub m a ∧ Sub m b := by
  rw [meetS_eq ga gb] at h
  cases hm : meetOk a.t b.t with
  | false => rw [hm] at h; cases h
  | true =>
    rw [hm] at h
    simp only [cond_true] at h
    obtain ⟨h1, h2, h3⟩ := sync_some _ h
    have hok := meet_ok ga.ok gb.ok hm
    have s1 : Sub (meetP a b) a := ⟨meet_in ga.ok gb.ok hm, by simp only [meetP, maxU_nat]; omega, by simp only [meetP, minU_nat]; omega, by simp only [meetP, maxI_eq]; omega, by simp only [meetP, minI_eq]; omega⟩
    have hm' : meetOk b.t a.t = true := by unfold meetOk at hm ⊢; rw [meetB_comm]; exact hm
    have s2 : Sub (meetP a b) b := ⟨by show Tn.inn (Tn.meet a.t b.t) b.t = true; rw [meet_comm]; exact meet_in gb.ok ga.ok hm', by simp only [meetP, maxU_nat]; omega, by simp only [meetP, minU_nat]; omega, by simp only [meetP, maxI_eq]; omega, by simp only [meetP, minI_eq]; omega⟩
    exact ⟨⟨h1, sync_rg _ (meetP_rg ga gb) _ h⟩, h2.trans h1.live.ok hok ga.ok s1, h2.trans h1.live.ok hok gb.ok s2⟩
theorem meetS_has {a b : Sc} (ga : Good a) (gb : Good b) {x : BitVec 64} (h1 : Has a x) (h2 : Has b x) : ∃ m, meetS a b = some m ∧ Has m x := by
  obtain ⟨hm, ht⟩ := has_meet ga.ok gb.ok h1.t h2.t
  rw [meetS_eq ga gb, hm]
  have hok := meet_ok ga.ok gb.ok hm
  have hh : Has (meetP a b) x := by
    have a1 := h1.u; have a2 := h1.U; have a3 := h1.s; have a4 := h1.S
    have b1 := h2.u; have b2 := h2.U; have b3 := h2.s; have b4 := h2.S
    exact ⟨hok, (has_iff hok).1 ht, by simp only [meetP, maxU_nat]; omega, by simp only [meetP, minU_nat]; omega, by simp only [meetP, maxI_eq]; omega, by simp only [meetP, minI_eq]; omega⟩
  obtain ⟨t, h3, _, _, h4, _⟩ := synced_has (meetP_rg ga gb) hh
  exact ⟨t, h3, h4⟩

section
variable {p : Pr}
theorem same_ps (ga : Good p.a) (gb : Good p.b) (hn : (same p).n = false) : PS (same p) p := by
  unfold same at hn ⊢
  cases hm : meetS p.a p.b with
  | none => rw [hm] at hn; cases hn
  | some m =>
    obtain ⟨g, s1, s2⟩ := meetS_some ga gb hm
    exact ⟨s1, s2, g.rg, g.rg, g.ok, g.ok⟩
theorem same_has {x : BitVec 64} (ga : Good p.a) (gb : Good p.b) (hx : Has p.a x) (hy : Has p.b x) : (same p).n = false ∧ Has (same p).a x ∧ Has (same p).b x := by
  obtain ⟨m, hm, h⟩ := meetS_has ga gb hx hy
  unfold same
  rw [hm]
  exact ⟨rfl, h, h⟩
end

/-! ### What is stable and not constant has more than one end -/
theorem Good.ends {k : Sc} (g : Good k) (h : isConst k = false) : k.u.toNat < k.U.toNat ∧ k.s < k.S := by
  have h1 : k.u.toNat < k.U.toNat := by
    have hle := g.st.live.u
    rcases Nat.lt_or_ge k.u.toNat k.U.toNat with h' | h'
    · exact h'
    · exfalso
      have e : k.u = k.U := BitVec.eq_of_toNat_eq (by omega)
      have hin := g.st.t_in
      have hm0 : (Tn.range k.u k.U).m = 0#64 := bext fun i hi => by
        rw [show bt 0#64 i = false from BitVec.getLsbD_zero]
        cases hb : bt (Tn.range k.u k.U).m i with
        | false => rfl
        | true =>
          obtain ⟨n, n', a1, a2, a3, a4, a5, a6⟩ := range_tight hle hi hb
          have : n = n' := BitVec.eq_of_toNat_eq (by rw [← e] at a2 a4; omega)
          rw [this, a6] at a5; cases a5
      have := (inn_m g.ok (range_ok _ _) hin).1
      rw [hm0] at this
      have hz : k.t.m = 0#64 := BitVec.eq_of_toNat_eq (by simpa using this)
      rw [isConst_iff.2 hz] at h; cases h
  refine ⟨h1, ?_⟩
  have hle := g.st.live.s
  rcases Int.lt_or_le k.s k.S with h' | h'
  · exact h'
  · exfalso
    have e : k.s = k.S := by omega
    obtain ⟨a, b⟩ := g.st.sign_u g.rg (by rw [e])
    rw [e] at a
    omega

theorem bump_ps {k : Sc} (g : Good k) (h : isConst k = false) (n : BitVec 64) : Sub (bump k n) k ∧ Rg (bump k n) := by
  obtain ⟨e1, e2⟩ := g.ends h
  have r1 := g.rg.a; have r2 := g.rg.b; have r3 := g.rg.c; have r4 := g.rg.d
  have o1 : (BitVec.ofInt 64 1).toNat = 1 := by decide
  have l1 := k.u.isLt; have l2 := k.U.isLt
  have a1 : (k.u + BitVec.ofInt 64 1).toNat = k.u.toNat + 1 := by rw [BitVec.toNat_add, o1]; omega
  have a2 : (k.U - BitVec.ofInt 64 1).toNat = k.U.toNat - 1 := by rw [BitVec.toNat_sub, o1]; omega
  have a3 : addI k.s 1 = k.s + 1 := by unfold addI; rw [wrap_in] <;> simp only [iMin, iMax] at * <;> omega
  have a4 : subI k.S 1 = k.S - 1 := by unfold subI; rw [wrap_in] <;> simp only [iMin, iMax] at * <;> omega
  unfold bump
  rw [a3, a4]
  refine ⟨⟨inn_refl g.ok, ?_, ?_, ?_, ?_⟩, ⟨?_, ?_, ?_, ?_⟩⟩
  · show _ ≤ (bif k.u == n then k.u + BitVec.ofInt 64 1 else k.u).toNat
    cases k.u == n <;> simp only [cond_true, cond_false] <;> omega
  · show (bif k.U == n then k.U - BitVec.ofInt 64 1 else k.U).toNat ≤ _
    cases k.U == n <;> simp only [cond_true, cond_false] <;> omega
  all_goals simp only [iMin, iMax] at *
  · cases k.s == n.toInt <;> simp only [cond_true, cond_false] <;> omega
  · cases k.S == n.toInt <;> simp only [cond_true, cond_false] <;> omega
  · cases k.s == n.toInt <;> simp only [cond_true, cond_false] <;> omega
  · cases k.s == n.toInt <;> simp only [cond_true, cond_false] <;> omega
  · cases k.S == n.toInt <;> simp only [cond_true, cond_false] <;> omega
  · cases k.S == n.toInt <;> simp only [cond_true, cond_false] <;> omega
theorem bump_has {k : Sc} (g : Good k) (h : isConst k = false) {n x : BitVec 64} (hx : Has k x) (hne : x ≠ n) : Has (bump k n) x := by
  obtain ⟨e1, e2⟩ := g.ends h
  have r1 := g.rg.a; have r2 := g.rg.b; have r3 := g.rg.c; have r4 := g.rg.d
  have o1 : (BitVec.ofInt 64 1).toNat = 1 := by decide
  have l1 := k.u.isLt; have l2 := k.U.isLt
  have a1 : (k.u + BitVec.ofInt 64 1).toNat = k.u.toNat + 1 := by rw [BitVec.toNat_add, o1]; omega
  have a2 : (k.U - BitVec.ofInt 64 1).toNat = k.U.toNat - 1 := by rw [BitVec.toNat_sub, o1]; omega
  have a3 : addI k.s 1 = k.s + 1 := by unfold addI; rw [wrap_in] <;> simp only [iMin, iMax] at * <;> omega
  have a4 : subI k.S 1 = k.S - 1 := by unfold subI; rw [wrap_in] <;> simp only [iMin, iMax] at * <;> omega
  have n1 : x.toNat ≠ n.toNat := fun e => hne (BitVec.eq_of_toNat_eq e)
  have n2 : x.toInt ≠ n.toInt := fun e => hne (toInt_inj' e)
  have h1 := hx.u; have h2 := hx.U; have h3 := hx.s; have h4 := hx.S
  unfold bump
  rw [a3, a4]
  refine ⟨hx.ok, hx.t, ?_, ?_, ?_, ?_⟩
  · show (bif k.u == n then k.u + BitVec.ofInt 64 1 else k.u).toNat ≤ _
    cases hc : k.u == n with
    | true => have := eq_of_beq hc; subst this; simp only [cond_true]; omega
    | false => exact h1
  · show _ ≤ (bif k.U == n then k.U - BitVec.ofInt 64 1 else k.U).toNat
    cases hc : k.U == n with
    | true => have := eq_of_beq hc; subst this; simp only [cond_true]; omega
    | false => exact h2
  · show (bif k.s == n.toInt then k.s + 1 else k.s) ≤ _
    cases hc : k.s == n.toInt with
    | true => have := eq_of_beq hc; simp only [cond_true]; omega
    | false => exact h3
  · show _ ≤ (bif k.S == n.toInt then k.S - 1 else k.S)
    cases hc : k.S == n.toInt with
    | true => have := eq_of_beq hc; simp only [cond_true]; omega
    | false => exact h4
theorem bump_const (k : Sc) (n : BitVec 64) : isConst (bump k n) = isConst k := rfl
theorem bumpIf_ps {k of : Sc} (g : Good k) : Sub (bumpIf k of) k ∧ Rg (bumpIf k of) ∧ (bumpIf k of).t = k.t := by
  unfold bumpIf
  cases isConst of with
  | false => exact ⟨Sub.refl g.ok, g.rg, rfl⟩
  | true =>
    cases h : isConst k with
    | true => exact ⟨Sub.refl g.ok, g.rg, rfl⟩
    | false => exact ⟨(bump_ps g h _).1, (bump_ps g h _).2, rfl⟩
theorem bumpIf_has {k of : Sc} (g : Good k) {x : BitVec 64} (hx : Has k x) (hne : isConst of = true → isConst k = false → x ≠ of.u) : Has (bumpIf k of) x := by
  unfold bumpIf
  cases ho : isConst of with
  | false => exact hx
  | true =>
    cases h : isConst k with
    | true => exact hx
    | false => exact bump_has g h hx (hne ho h)

section
variable {p : Pr}
theorem unlike_ps (ga : Good p.a) (gb : Good p.b) (hn : (unlike p).n = false) : PS (unlike p) p := by
  unfold unlike at hn ⊢
  cases hc : (bif (bif isConst p.a then isConst p.b else false) then p.a.u == p.b.u else false) with
  | true => rw [hc] at hn; cases hn
  | false =>
    obtain ⟨s1, r1, t1⟩ := bumpIf_ps (of := p.b) ga
    obtain ⟨s2, r2, t2⟩ := bumpIf_ps (of := bumpIf p.a p.b) gb
    exact ⟨s1, s2, r1, r2, by show ok (bumpIf p.a p.b).t = true; rw [t1]; exact ga.ok, by show ok (bumpIf p.b (bumpIf p.a p.b)).t = true; rw [t2]; exact gb.ok⟩
theorem unlike_has {x y : BitVec 64} (ga : Good p.a) (gb : Good p.b) (hx : Has p.a x) (hy : Has p.b y) (hne : x ≠ y) (hn : p.n = false) : (unlike p).n = false ∧ Has (unlike p).a x ∧ Has (unlike p).b y := by
  have ua : isConst p.a = true → p.a.u = x := fun h => by rw [const_uniq ga h hx]; rfl
  have ub : isConst p.b = true → p.b.u = y := fun h => by rw [const_uniq gb h hy]; rfl
  have hc : (bif (bif isConst p.a then isConst p.b else false) then p.a.u == p.b.u else false) = false := by
    cases h1 : isConst p.a with
    | false => rfl
    | true =>
      cases h2 : isConst p.b with
      | false => rfl
      | true =>
        show (p.a.u == p.b.u) = false
        rw [ua h1, ub h2, beq_eq_false_iff_ne]; exact hne
  unfold unlike
  rw [hc]
  refine ⟨hn, bumpIf_has ga hx fun h1 _ => by rw [ub h1]; exact hne, bumpIf_has gb hy fun h1 h2 => ?_⟩
  have e : bumpIf p.a p.b = p.a := by unfold bumpIf; rw [h2]; rfl
  rw [e] at h1 ⊢
  rw [ua h1]; exact fun e => hne e.symm

/-! ### Bits -/
theorem cut_mem {k of : Sc} (g : Good of) {x y : BitVec 64} (hy : Has of y) (h : x &&& y = zW) : Mem ⟨zW, ~~~of.t.v⟩ x := fun i hi hm => by
  have hm : bt (~~~of.t.v) i = false := hm
  rw [bt_not hi] at hm
  have hv : bt of.t.v i = true := by cases e : bt of.t.v i <;> rw [e] at hm <;> simp at hm ⊢
  have hmm := ok_bit g.ok i
  rw [hv, Bool.true_and] at hmm
  have h1 := hy.t i hi hmm
  have h2 := bt_congr h i
  rw [bt_and, h1, hv, Bool.and_true] at h2
  exact h2
theorem ok_cut (m : BitVec 64) : ok ⟨zW, m⟩ = true := ok_z m
theorem withT_rg {k : Sc} (r : Rg k) (t : Tn) : Rg (withT k t) := ⟨r.a, r.b, r.c, r.d⟩
theorem cut_sub {k of : Sc} (g : Good k) (h : cutOk k of = true) : Sub (withT k (cutT k of)) k ∧ ok (cutT k of) = true :=
  ⟨⟨meet_in g.ok (ok_cut _) h, Nat.le_refl _, Nat.le_refl _, Int.le_refl _, Int.le_refl _⟩, meet_ok g.ok (ok_cut _) h⟩
theorem cut_has {k of : Sc} (g : Good k) (g' : Good of) {x y : BitVec 64} (hx : Has k x) (hy : Has of y) (h : x &&& y = zW) : cutOk k of = true ∧ Has (withT k (cutT k of)) x := by
  obtain ⟨h1, h2⟩ := has_meet g.ok (ok_cut _) hx.t (cut_mem (k := k) g' hy h)
  have hok := meet_ok g.ok (ok_cut _) h1
  exact ⟨h1, ⟨hok, (has_iff hok).1 h2, hx.u, hx.U, hx.s, hx.S⟩⟩
theorem apart_ps (ga : Good p.a) (gb : Good p.b) (hn : (apart p).n = false) : PS (apart p) p := by
  unfold apart at hn ⊢
  cases h1 : cutOk p.a p.b with
  | false => rw [h1] at hn; cases hn
  | true =>
    cases h2 : cutOk p.b p.a with
    | false => rw [h1, h2] at hn; cases hn
    | true =>
      obtain ⟨s1, o1⟩ := cut_sub ga h1
      obtain ⟨s2, o2⟩ := cut_sub gb h2
      exact ⟨s1, s2, withT_rg ga.rg _, withT_rg gb.rg _, o1, o2⟩
theorem apart_has {x y : BitVec 64} (ga : Good p.a) (gb : Good p.b) (hx : Has p.a x) (hy : Has p.b y) (h : x &&& y = zW) (hn : p.n = false) : (apart p).n = false ∧ Has (apart p).a x ∧ Has (apart p).b y := by
  obtain ⟨c1, m1⟩ := cut_has ga gb hx hy h
  obtain ⟨c2, m2⟩ := cut_has gb ga hy hx (by rw [BitVec.and_comm]; exact h)
  unfold apart
  rw [c1, c2]
  exact ⟨hn, m1, m2⟩
theorem and_mx {a b : Sc} {x y : BitVec 64} (hx : Has a x) (hy : Has b y) (h : mx a.t &&& mx b.t = zW) : x &&& y = zW := bext fun i hi => by
  have h1 := bt_congr h i
  rw [bt_zero] at h1 ⊢
  rw [bt_and] at h1 ⊢
  unfold mx at h1
  rw [bt_or, bt_or] at h1
  exact (by decide : ∀ x v m y w n : Bool, (m = false → x = v) → (n = false → y = w) → ((v || m) && (w || n)) = false → (x && y) = false) _ _ _ _ _ _ (hx.t i hi) (hy.t i hi) h1
theorem common_has {x y : BitVec 64} (hx : Has p.a x) (hy : Has p.b y) (h : x &&& y ≠ zW) : (common p).n = false := by
  unfold common
  rw [beq_eq_false_iff_ne]
  exact fun e => h (and_mx hx hy e)
end
end Go.Sc
