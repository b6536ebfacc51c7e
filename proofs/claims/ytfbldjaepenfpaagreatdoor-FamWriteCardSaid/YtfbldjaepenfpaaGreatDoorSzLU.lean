/-
  A symbolic machine for one call, with rows of any length: values of interfaces; rows of cells that may grow, where slices of a known length are kept as cells.
-/
import Derived.Test.YtfbldjaepenfpaaGreatDoorSzLR
import Derived.Test.YtfbldjaepenfpaaGreatDoorSzMC
noncomputable section
namespace Go.Sz
open Go Go.RowKit Go.Sy
set_option linter.unusedVariables false
set_option linter.unusedSimpArgs false
set_option linter.constructorNameAsVariable false
/-! ### What an interface's value holds -/
theorem Cap.cell_rep {F : Frag} {r : Loc} : ∀ {c : Cap} {v : Value}, c.rep F r v → c.cell.rep F r v
  | .v _, _, g0 => g0
  | .w _ _, _, g0 => g0
  | .p _ _, _, g0 => g0
  | .h _, _, g0 => g0
  | .d _ _, _, g0 => g0
  | .q _ _, _, g0 => g0
  | .y _ _, _, g0 => g0
theorem Cap.cell_inn {D : Nat → Prop} : ∀ {c : Cap}, c.inn D → c.cell.inn D
  | .v _, _ => trivial
  | .w _ _, _ => trivial
  | .p _ _, g0 => g0
  | .h _, g0 => g0
  | .d _ _, _ => trivial
  | .q _ _, _ => trivial
  | .y _ _, _ => trivial
theorem capsRep_cells {F : Frag} {r : Loc} : ∀ {caps : List Cap} {vs : List Value}, capsRep F r caps vs → cellsRep F r (caps.map Cap.cell) vs
  | [], [], _ => trivial
  | [], _ :: _, h => h.elim
  | _ :: _, [], h => h.elim
  | c :: cs, v :: vs, h => ⟨Cap.cell_rep h.1, capsRep_cells h.2⟩
def ifcPart (g : FuncId) (caps : List Cap) : Option Part := bif ifcA g then some (.many (caps.map Cap.cell)) else match caps with
  | [c] => some (.one c.cell)
  | _ => none
theorem ifcPart_rep {F : Frag} {r : Loc} {g : FuncId} {caps : List Cap} {q : Part} (h : ifcPart g caps = some q) {vs : List Value} (hv : capsRep F r caps vs) :
    q.rep F r (bif ifcA g then .agg vs.toArray else vs.headD (.tuple #[])) := by
  unfold ifcPart at h
  cases hb : ifcA g with
  | true =>
    rw [hb] at h
    simp only [cond_true, Option.some.injEq] at h; subst h
    exact ⟨vs, capsRep_cells hv, rfl⟩
  | false =>
    rw [hb] at h
    simp only [cond_false] at h
    split at h
    · rename_i c
      injection h with h; subst h
      match vs, hv with
      | [v], hv => exact Cap.cell_rep hv.1
    · cases h
theorem ifcPart_inn {D : Nat → Prop} {g : FuncId} {caps : List Cap} {q : Part} (h : ifcPart g caps = some q) (hc : ∀ c ∈ caps, c.inn D) : q.inn D := by
  unfold ifcPart at h
  cases hb : ifcA g with
  | true =>
    rw [hb] at h
    simp only [cond_true, Option.some.injEq] at h; subst h
    intro c hcm
    obtain ⟨k, hk, rfl⟩ := List.mem_map.1 hcm
    exact Cap.cell_inn (hc k hk)
  | false =>
    rw [hb] at h
    simp only [cond_false] at h
    split at h
    · rename_i c
      injection h with h; subst h
      exact Cap.cell_inn (hc _ (by simp))
    · cases h
def capsL : List Cell → Option (List Cap)
  | [] => some []
  | c :: l => match capOf c, capsL l with
    | some k, some ks => some (k :: ks)
    | _, _ => none
theorem capsL_rep {F : Frag} {r : Loc} : ∀ {l : List Cell} {ks : List Cap} {vs : List Value}, capsL l = some ks → cellsRep F r l vs → capsRep F r ks vs
  | [], ks, [], h, _ => by simp only [capsL, Option.some.injEq] at h; subst h; trivial
  | [], _, _ :: _, _, h => h.elim
  | _ :: _, _, [], _, h => h.elim
  | c :: l, ks, v :: vs, h, hr => by
    simp only [capsL] at h
    split at h
    · rename_i k ks' hk hks
      injection h with h; subst h
      exact ⟨capOf_rep hk hr.1, capsL_rep hks hr.2⟩
    · cases h
theorem capsL_inn {D : Nat → Prop} : ∀ {l : List Cell} {ks : List Cap}, capsL l = some ks → (∀ c ∈ l, c.inn D) → ∀ k ∈ ks, k.inn D
  | [], ks, h, _, k, hk => by simp only [capsL, Option.some.injEq] at h; subst h; cases hk
  | c :: l, ks, h, hi, k, hk => by
    simp only [capsL] at h
    split at h
    · rename_i k1 ks' hk1 hks
      injection h with h; subst h
      rcases List.mem_cons.1 hk with rfl | hk
      · exact capOf_inn hk1 (hi _ (by simp))
      · exact capsL_inn hks (fun c hc => hi c (List.mem_cons_of_mem _ hc)) k hk
    · cases h
def ifcG (t : TypeId) (b : Bool) : FuncId := ifcB + (2 * t + bif b then 1 else 0)
theorem ifc_n1 (t : Nat) (b : Nat) : Nat.ble (1000000000000 + (2 * t + b) + 1) 1000000000000 = false := by
  cases h : Nat.ble (1000000000000 + (2 * t + b) + 1) 1000000000000 with
  | false => rfl
  | true => have := Nat.le_of_ble_eq_true h; omega
theorem ifc_n2 (t : Nat) : (2 * t + 0) / 2 = t := by omega
theorem ifc_n3 (t : Nat) : (2 * t + 1) / 2 = t := by omega
theorem ifc_n4 (t : Nat) : (2 * t + 0) % 2 = 0 := by omega
theorem ifc_n5 (t : Nat) : (2 * t + 1) % 2 = 1 := by omega
theorem ifcG_fn (t : TypeId) (b : Bool) : isFn (ifcG t b) = false := ifc_n1 t _
theorem ifcG_sub (t : TypeId) (b : Bool) : ifcG t b - ifcB = 2 * t + bif b then 1 else 0 := Nat.add_sub_cancel_left ifcB _
theorem ifcG_t (t : TypeId) (b : Bool) : ifcT (ifcG t b) = t := by
  unfold ifcT
  rw [ifcG_sub]
  cases b
  · exact ifc_n2 t
  · exact ifc_n3 t
theorem ifcG_a (t : TypeId) (b : Bool) : ifcA (ifcG t b) = b := by
  unfold ifcA
  rw [ifcG_sub]
  cases b
  · exact (congrArg (fun x => Nat.beq x 1) (ifc_n4 t)).trans rfl
  · exact (congrArg (fun x => Nat.beq x 1) (ifc_n5 t)).trans rfl
def makeIfc (P : Program) (t : TypeId) (q : Part) : Option Cell := match P.underlying t with
  | some (.interface _) => none
  | some _ => match q with
    | .one c => match capOf c with
      | some k => some (.clo (ifcG t false) [k])
      | none => none
    | .many l => match capsL l with
      | some ks => some (.clo (ifcG t true) ks)
      | none => none
  | none => none
section
variable {P : Program} {F : Frag} {r : Loc} {D : Nat → Prop} {w : World}
theorem makeIfc_run {t : TypeId} {q : Part} {c : Cell} (h : makeIfc P t q = some c) {u : Value} (hu : q.rep F r u) (hi : q.inn D) (w : World) :
    ∃ v, (Instr.makeInterface t u).run P w = .ok v w ∧ c.rep F r v ∧ c.inn D := by
  unfold makeIfc at h
  split at h
  · cases h
  · rename_i d hd hno
    have hrun : (Instr.makeInterface t u).run P w = .ok (.iface t u) w := by
      simp only [Instr.makeInterface, Sem.run_bind, run_underlying hno, Result.andThen_ok]
      cases d <;> first | rfl | exact (hd _ rfl).elim
    split at h
    · rename_i c0
      split at h
      · rename_i k hk
        injection h with h; subst h
        refine ⟨_, hrun, ⟨[u], ⟨capOf_rep hk hu, trivial⟩, ?_⟩, fun x hx => ?_⟩
        · rw [cloV_ifc (ifcG_fn t false), ifcG_t, ifcG_a]; rfl
        · rcases List.mem_singleton.1 hx with rfl; exact capOf_inn hk hi
      · cases h
    · rename_i l
      split at h
      · rename_i ks hks
        injection h with h; subst h
        obtain ⟨vs, h1, rfl⟩ := hu
        refine ⟨_, hrun, ⟨vs, capsL_rep hks h1, ?_⟩, capsL_inn hks hi⟩
        rw [cloV_ifc (ifcG_fn t true), ifcG_t, ifcG_a]; rfl
      · cases h
  · cases h
def assertT (P : Program) (gt : TypeId) (qo : Option Part) (t : TypeId) (ok : Bool) : Option AV := match P.underlying t with
  | some (.interface _) => none
  | some _ => bif Nat.beq gt t then match qo with
      | some q => some (bif ok then .t [q, .one (.v (.bool true))] else .p q)
      | none => none
    else bif ok then match pureSem P (zeroValue t) with
      | some z => some (.t [ofK1 z, .one (.v (.bool false))])
      | none => none
    else none
  | none => none
theorem assertT_run {gt : TypeId} {qo : Option Part} {xt t : TypeId} {ok : Bool} {av : AV} (h : assertT P gt qo t ok = some av) {pl : Value} (hq : ∀ q, qo = some q → q.rep F r pl ∧ q.inn D) (w : World) :
    ∃ v, (Instr.typeAssert (.iface gt pl) xt t ok).run P w = .ok v w ∧ av.rep F r v ∧ av.inn D := by
  unfold assertT at h
  split at h
  · cases h
  · rename_i d hd hno
    cases hb : Nat.beq gt t with
    | true =>
      rw [hb] at h
      have e := Nat.eq_of_beq_eq_true hb
      subst e
      simp only [cond_true] at h
      cases qo with
      | none => cases h
      | some q =>
        obtain ⟨hr, hin⟩ := hq q rfl
        injection h with h; subst h
        cases ok with
        | false =>
          refine ⟨pl, ?_, hr, hin⟩
          simp only [Instr.typeAssert, Sem.run_bind, run_underlying hno, Result.andThen_ok]
          cases d <;> first | simp | exact (hd _ rfl).elim
        | true =>
          refine ⟨.tuple #[pl, .bool true], ?_, ⟨[pl, .bool true], ⟨hr, rfl, trivial⟩, rfl⟩, fun x hx => ?_⟩
          · simp only [Instr.typeAssert, Sem.run_bind, run_underlying hno, Result.andThen_ok]
            cases d <;> first | simp | exact (hd _ rfl).elim
          · simp only [List.mem_cons, List.not_mem_nil, or_false, cond_true] at hx
            rcases hx with rfl | rfl
            · exact hin
            · trivial
    | false =>
      rw [hb] at h
      simp only [cond_false] at h
      have hne : ¬ gt = t := fun e => by rw [e, Nat.beq_refl] at hb; cases hb
      cases ok with
      | false => cases h
      | true =>
        simp only [cond_true] at h
        split at h
        · rename_i z hz
          injection h with h; subst h
          refine ⟨.tuple #[z, .bool false], ?_, ⟨[z, .bool false], ⟨ofK1_rep F r z, rfl, trivial⟩, rfl⟩, fun x hx => ?_⟩
          · simp only [Instr.typeAssert, Sem.run_bind, run_underlying hno, Result.andThen_ok]
            cases d <;> first | simp [hne, pureSem_run hz] | exact (hd _ rfl).elim
          · simp only [List.mem_cons, List.not_mem_nil, or_false] at hx
            rcases hx with rfl | rfl
            · exact ofK1_inn D z
            · trivial
        · cases h
  · cases h
theorem equalIn_ifc {t : TypeId} {ms : Array (String × TypeId)} (h : P.underlying t = some (.interface ms)) (d : Nat) (gt : TypeId) (pl : Value) (w : World) : (Op.equalIn (d + 1) t (.iface gt pl) .nilIface).run P w = .ok false w := by
  simp only [Op.equalIn, Sem.run_bind, run_underlying h, Result.andThen_ok, Sem.run_pure]
theorem equalIn_fun {t : TypeId} {a b : Array TypeId} {c : Bool} (h : P.underlying t = some (.func a b c)) (d : Nat) (f : Fn) (x y : Array Value) (w : World) : (Op.equalIn (d + 1) t (.func f x y) .nilFunc).run P w = .ok false w := by
  simp only [Op.equalIn, Sem.run_bind, run_underlying h, Result.andThen_ok, Sem.run_pure]
def nilT (P : Program) (op : BinOp) (t : TypeId) (g : FuncId) (v : Value) : Option Bool := match P.underlying t, v with
  | some (.interface _), .nilIface => bif isFn g then none else (match op with | .eql => some false | .neq => some true | _ => none)
  | some (.func ..), .nilFunc => bif isFn g then (match op with | .eql => some false | .neq => some true | _ => none) else none
  | _, _ => none
theorem nilT_run {op : BinOp} {t : TypeId} {g : FuncId} {caps : List Cap} {v : Value} {b : Bool} (h : nilT P op t g v = some b) {u : Value} (hu : (Cell.clo g caps).rep F r u) (x y : Operand) (w : World) :
    (do eqGuard op t x y u v; binOp op t u v : Sem Value).run P w = .ok (.bool b) w := by
  obtain ⟨vs, h1, h2⟩ := hu
  unfold nilT at h
  generalize hg : isFn g = bg at h
  split at h
  · rename_i ms hms
    cases bg with
    | true => cases h
    | false =>
      simp only [cond_false] at h
      rw [cloV_ifc hg] at h2
      generalize ifcT g = gt at h2
      generalize (bif ifcA g then Value.agg vs.toArray else vs.headD (.tuple #[])) = pl at h2
      subst h2
      have key := equalIn_ifc hms 9999 gt pl w
      split at h
      · injection h with h; subst h
        rw [Sem.run_bind, show (eqGuard .eql t x y (.iface gt pl) .nilIface).run P w = .ok () w from rfl, Result.andThen_ok]
        simp only [binOp]
        simp [Op.equal, Op.maxDepth, key]
      · injection h with h; subst h
        rw [Sem.run_bind, show (eqGuard .neq t x y (.iface gt pl) .nilIface).run P w = .ok () w from rfl, Result.andThen_ok]
        simp only [binOp]
        simp [Op.equal, Op.maxDepth, key]
      · cases h
  · rename_i a b c hms
    cases bg with
    | false => cases h
    | true =>
      simp only [cond_true] at h
      rw [cloV_fn hg] at h2
      subst h2
      have key := equalIn_fun hms 9999 (.func (fnO g)) (vs.take (bdO g)).toArray (vs.drop (bdO g)).toArray w
      split at h
      · injection h with h; subst h
        rw [Sem.run_bind, show (eqGuard .eql t x y (.func (.func (fnO g)) (vs.take (bdO g)).toArray (vs.drop (bdO g)).toArray) .nilFunc).run P w = .ok () w from rfl, Result.andThen_ok]
        simp only [binOp]
        simp [Op.equal, Op.maxDepth, key]
      · injection h with h; subst h
        rw [Sem.run_bind, show (eqGuard .neq t x y (.func (.func (fnO g)) (vs.take (bdO g)).toArray (vs.drop (bdO g)).toArray) .nilFunc).run P w = .ok () w from rfl, Result.andThen_ok]
        simp only [binOp]
        simp [Op.equal, Op.maxDepth, key]
      · cases h
  · cases h
end
/-! ### Rows of cells -/
def contC (H : Hf) (sz : Nat) : Cell → Option (List Cell × Nat)
  | .v (.slice _ 0 _) => some ([], 0)
  | .s j off sz1 n _ => match H j with
    | some (.lit l) => bif Nat.beq sz1 sz then match takeX (n * sz) (l.drop off) with
        | some cs => some (cs, n)
        | none => none
      else none
    | _ => none
  | .h j => match H j with
    | some (.lr sz2 n l) => bif Nat.beq sz2 sz then some (l, n) else none
    | _ => none
  | .hs j sz1 lo n mx => match H j with
    | some (.lr sz2 m l) => bif Nat.beq sz2 sz && (Nat.beq sz1 sz && (Nat.ble (lo + n) m && (Nat.beq n 0 || mxGt lo mx))) then some ((l.drop (lo * sz)).take (n * sz), n) else none
    | _ => none
  | _ => none
def baseC (H : Hf) (sz : Nat) : Cell → Option (List Cell × Nat × List Nat)
  | .v (.slice none 0 0) => some ([], 0, [])
  | .h j => match H j with
    | some (.lr sz2 n l) => bif Nat.beq sz2 sz then some (l, n, [j]) else none
    | _ => none
  | .hs j sz1 lo n mx => match H j with
    | some (.lr sz2 m l) => bif Nat.beq sz2 sz && (Nat.beq sz1 sz && (Nat.ble (lo + n) m && (match mx with | none => true | some M => Nat.ble (lo + n) M && Nat.ble M m))) then some ((l.drop (lo * sz)).take (n * sz), n, [j]) else none
    | _ => none
  | .s j off sz1 n cap => match H j with
    | some (.lit l) => bif Nat.beq sz1 sz && (Nat.ble n cap && (Nat.ble (off + cap * sz) l.length && Nat.ble cap 140737488355328)) then some ((l.drop off).take (n * sz), n, [j]) else none
    | _ => none
  | _ => none
structure BaseC (F : Frag) (r : Loc) (H : Hf) (w : World) (P : Program) (sz n : Nat) (cs : List Cell) (js : List Nat) (a : Option Addr) (b o cap : Nat) (vs : List Value) : Prop where
  rep : cellsRep F r cs vs
  one : ∀ v ∈ vs, v.oneCell' = true
  len : vs.length = n * sz
  reads : Reads P w sz n (.slice a n cap) vs
  non : a = none → n = 0 ∧ cap = 0
  ptr : a ≠ none → a = some ⟨b, o, none⟩
  le : n ≤ cap
  max : cap ≤ maxLen
  there : a ≠ none → w.there b o (cap * sz)
  at_ : a ≠ none → w.rangeAt b o vs
  foot : a ≠ none → ∀ p, o ≤ p → p < o + cap * sz → ∃ j ob, j ∈ js ∧ H j = some ob ∧ ob.foot (r j) b p
  jsH : ∀ j ∈ js, ∃ ob, H j = some ob
section
variable {P : Program} {F : Frag} {r : Loc} {D : Nat → Prop} {w : World} {H : Hf}
theorem lr_facts {d : Ld} {sz n : Nat} {l : List Cell} (h : ObIs F r d w (.lr sz n l)) : ∃ vs, cellsRep F r l vs ∧ l.length = n * sz ∧ w.rangeAt d.b d.o vs ∧ (∀ v ∈ vs, v.oneCell' = true) ∧
    ((d.hv = .slice none 0 0 ∧ n = 0) ∨ ∃ cap, d.hv = .slice (some ⟨d.b, d.o, none⟩) n cap ∧ n ≤ cap ∧ cap ≤ maxLen ∧ w.there d.b d.o (cap * sz)) := by
  rcases h with ⟨h1, h2, h3⟩ | ⟨cap, vs, h1, h2, h3, h4, h5, h6, h7, h8⟩
  · subst h2 h3
    exact ⟨[], trivial, by simp, fun i v hv => by simp at hv, fun v hv => by simp at hv, .inl ⟨h1, rfl⟩⟩
  · exact ⟨vs, h6, h2, h7, h8, .inr ⟨cap, h1, h3, h4, h5⟩⟩
theorem range_part {b o : Nat} {vs : List Value} (h : w.rangeAt b o vs) (off m : Nat) : w.rangeAt b (o + off) ((vs.drop off).take m) := fun i v hv => by
  rw [List.getElem?_take] at hv
  split at hv
  · rw [List.getElem?_drop] at hv
    have := h _ v hv
    rw [← Nat.add_assoc] at this; exact this
  · cases hv
theorem one_part {vs : List Value} (h : ∀ v ∈ vs, v.oneCell' = true) (off m : Nat) : ∀ v ∈ (vs.drop off).take m, v.oneCell' = true := fun v hv => h v (List.mem_of_mem_drop (List.mem_of_mem_take hv))
theorem len_part {vs : List Value} {m lo n sz : Nat} (hl : vs.length = m * sz) (h : lo + n ≤ m) : ((vs.drop (lo * sz)).take (n * sz)).length = n * sz := by
  have : (lo + n) * sz ≤ m * sz := Nat.mul_le_mul_right _ h
  rw [Nat.add_mul] at this
  rw [List.length_take, List.length_drop, hl]; omega
theorem contC_run (hs : Sees F r D H w) {sz : Nat} {c : Cell} {cs : List Cell} {n : Nat} (h : contC H sz c = some (cs, n)) {u : Value} (hu : c.rep F r u) :
    ∃ vs, cellsRep F r cs vs ∧ (∀ v ∈ vs, v.oneCell' = true) ∧ vs.length = n * sz ∧ Reads P w sz n u vs ∧ ∀ x ∈ cs, x.inn D := by
  unfold contC at h
  split at h
  · rename_i a cap
    simp only [Option.some.injEq, Prod.mk.injEq] at h
    obtain ⟨rfl, rfl⟩ := h
    rw [show u = _ from hu]
    exact ⟨[], trivial, fun v hv => by simp at hv, by simp, reads_slice (b := 0) (o := 0) (by simp) (fun h => absurd (by simp) h) (fun i v hv => by simp at hv), fun x hx => by cases hx⟩
  · rename_i j off sz1 m cap
    split at h
    · rename_i l hj
      cases hb : Nat.beq sz1 sz with
      | false => rw [hb] at h; cases h
      | true =>
        rw [hb] at h
        simp only [cond_true] at h
        split at h
        · rename_i cs' hcs
          simp only [Option.some.injEq, Prod.mk.injEq] at h
          obtain ⟨rfl, rfl⟩ := h
          obtain ⟨t1, t2⟩ := takeX_spec _ _ _ hcs
          obtain ⟨vs, e1, e2, e3, e4⟩ := hs.obs j _ hj
          have hr : cellsRep F r cs' ((vs.drop off).take (m * sz)) := by rw [t1]; exact cellsRep_take _ (cellsRep_drop off e1)
          have hlen : ((vs.drop off).take (m * sz)).length = m * sz := by rw [cellsRep_length hr, t2]
          rw [show u = _ from hu]
          refine ⟨_, hr, one_part e4 _ _, hlen, reads_slice hlen (fun _ => rfl) (range_part e2 off (m * sz)), fun x hx => ?_⟩
          rw [t1] at hx
          exact hs.scp j _ hj x (List.mem_of_mem_drop (List.mem_of_mem_take hx))
        · cases h
    · cases h
  · rename_i j
    split at h
    · rename_i sz2 m l hj
      cases hb : Nat.beq sz2 sz with
      | false => rw [hb] at h; cases h
      | true =>
        rw [hb] at h
        have e := Nat.eq_of_beq_eq_true hb
        subst e
        simp only [cond_true, Option.some.injEq, Prod.mk.injEq] at h
        obtain ⟨rfl, rfl⟩ := h
        obtain ⟨vs, e1, e2, e3, e4, e5⟩ := lr_facts (hs.obs j _ hj)
        have hlen : vs.length = m * sz2 := by rw [cellsRep_length e1, e2]
        refine ⟨vs, e1, e4, hlen, ?_, hs.scp j _ hj⟩
        rw [hu.1]
        rcases e5 with ⟨k1, k2⟩ | ⟨cap, k1, _⟩
        · rw [k1, k2]
          have hv0 : vs = [] := List.length_eq_zero_iff.1 (by rw [hlen, k2]; simp)
          rw [hv0]
          exact reads_slice (b := 0) (o := 0) (by simp) (fun h => absurd (by simp) h) (fun i v hv => by simp at hv)
        · rw [k1]
          exact reads_slice hlen (fun _ => rfl) e3
    · cases h
  · rename_i j sz1 lo m mx
    split at h
    · rename_i sz2 k l hj
      cases hb : (Nat.beq sz2 sz && (Nat.beq sz1 sz && (Nat.ble (lo + m) k && (Nat.beq m 0 || mxGt lo mx)))) with
      | false => rw [hb] at h; cases h
      | true =>
        rw [hb] at h
        simp only [Bool.and_eq_true] at hb
        obtain ⟨b1, b2, b3, b4⟩ := hb
        have e1 := Nat.eq_of_beq_eq_true b1
        have e2 := Nat.eq_of_beq_eq_true b2
        have hle : lo + m ≤ k := Nat.le_of_ble_eq_true b3
        subst e1 e2
        simp only [cond_true, Option.some.injEq, Prod.mk.injEq] at h
        obtain ⟨rfl, rfl⟩ := h
        obtain ⟨vs, e1, e2, e3, e4, e5⟩ := lr_facts (hs.obs j _ hj)
        have hvl : vs.length = k * sz1 := by rw [cellsRep_length e1, e2]
        have hlen := len_part hvl hle
        refine ⟨_, cellsRep_take _ (cellsRep_drop _ e1), one_part e4 _ _, hlen, ?_, fun x hx => hs.scp j _ hj x (List.mem_of_mem_drop (List.mem_of_mem_take hx))⟩
        rw [hu.1]
        rcases e5 with ⟨k1, k2⟩ | ⟨cap, k1, k2, _⟩
        · have hm0 : m = 0 := by omega
          subst hm0
          rw [k1]
          have hv0 : ((vs.drop (lo * sz1)).take (0 * sz1)) = [] := by simp
          rw [hv0]
          simp only [subHdr]
          exact reads_slice (b := 0) (o := 0) (by simp) (fun h => absurd (by simp) h) (fun i v hv => by simp at hv)
        · rw [k1]
          simp only [subHdr]
          refine reads_slice (b := (r j).b) (o := (r j).o + lo * sz1) hlen (fun hne => ?_) (range_part e3 _ _)
          have hm : m ≠ 0 := fun e => hne (by rw [e]; simp)
          have hgt : mx.getD cap ≠ lo := by
            have b5 : mxGt lo mx = true := by
              cases hb : Nat.beq m 0 with
              | true => exact absurd (Nat.eq_of_beq_eq_true hb) hm
              | false => rw [hb] at b4; simpa using b4
            cases mx with
            | none => simp; omega
            | some M =>
              have : lo < M := Nat.le_of_ble_eq_true b5
              simp; omega
          rw [if_neg hgt]
          simp [Addr.add_mid]
    · cases h
  · cases h
theorem baseC_run (hs : Sees F r D H w) {sz : Nat} {c : Cell} {cs : List Cell} {n : Nat} {js : List Nat} (h : baseC H sz c = some (cs, n, js)) {u : Value} (hu : c.rep F r u) :
    ∃ a b o cap vs, u = .slice a n cap ∧ BaseC F r H w P sz n cs js a b o cap vs ∧ ∀ x ∈ cs, x.inn D := by
  unfold baseC at h
  split at h
  · simp only [Option.some.injEq, Prod.mk.injEq] at h
    obtain ⟨rfl, rfl, rfl⟩ := h
    refine ⟨none, 0, 0, 0, [], hu, ⟨trivial, fun v hv => by simp at hv, by simp, reads_slice (b := 0) (o := 0) (by simp) (fun h => absurd (by simp) h) (fun i v hv => by simp at hv), fun _ => ⟨rfl, rfl⟩, fun h => absurd rfl h, Nat.le_refl _, Nat.zero_le _, fun h => absurd rfl h, fun h => absurd rfl h, fun h => absurd rfl h, fun j hj => by cases hj⟩, fun x hx => by cases hx⟩
  · rename_i j
    split at h
    · rename_i sz2 m l hj
      cases hb : Nat.beq sz2 sz with
      | false => rw [hb] at h; cases h
      | true =>
        rw [hb] at h
        have e := Nat.eq_of_beq_eq_true hb
        subst e
        simp only [cond_true, Option.some.injEq, Prod.mk.injEq] at h
        obtain ⟨rfl, rfl, rfl⟩ := h
        obtain ⟨vs, e1, e2, e3, e4, e5⟩ := lr_facts (hs.obs j _ hj)
        have hlen : vs.length = m * sz2 := by rw [cellsRep_length e1, e2]
        rcases e5 with ⟨k1, k2⟩ | ⟨cap, k1, k2, k3, k4⟩
        · have hv0 : vs = [] := List.length_eq_zero_iff.1 (by rw [hlen, k2]; simp)
          refine ⟨none, 0, 0, 0, vs, by rw [hu.1, k1, k2], ⟨e1, e4, hlen, ?_, fun _ => ⟨k2, rfl⟩, fun h => absurd rfl h, by omega, Nat.zero_le _, fun h => absurd rfl h, fun h => absurd rfl h, fun h => absurd rfl h, fun j' hj' => ?_⟩, hs.scp j _ hj⟩
          · rw [k2, hv0]
            exact reads_slice (b := 0) (o := 0) (by simp) (fun h => absurd (by simp) h) (fun i v hv => by simp at hv)
          · rcases List.mem_singleton.1 hj' with rfl; exact ⟨_, hj⟩
        · refine ⟨_, (r j).b, (r j).o, cap, vs, by rw [hu.1, k1], ⟨e1, e4, hlen, reads_slice hlen (fun _ => rfl) e3, fun h => (by cases h), fun _ => rfl, k2, k3, fun _ => k4, fun _ => e3, fun _ p h1 h2 => ⟨j, _, by simp, hj, _, _, k1, rfl, h1, h2⟩, fun j' hj' => ?_⟩, hs.scp j _ hj⟩
          rcases List.mem_singleton.1 hj' with rfl; exact ⟨_, hj⟩
    · cases h
  · rename_i j sz1 lo m mx
    split at h
    · rename_i sz2 k l hj
      generalize hmb : (match mx with | none => true | some M => Nat.ble (lo + m) M && Nat.ble M k) = mb at h
      cases hb : (Nat.beq sz2 sz && (Nat.beq sz1 sz && (Nat.ble (lo + m) k && mb))) with
      | false => rw [hb] at h; cases h
      | true =>
        rw [hb] at h
        simp only [Bool.and_eq_true] at hb
        obtain ⟨b1, b2, b3, b4⟩ := hb
        have e1 := Nat.eq_of_beq_eq_true b1
        have e2 := Nat.eq_of_beq_eq_true b2
        have hle : lo + m ≤ k := Nat.le_of_ble_eq_true b3
        subst e1 e2
        rw [b4] at hmb
        simp only [cond_true, Option.some.injEq, Prod.mk.injEq] at h
        obtain ⟨rfl, rfl, rfl⟩ := h
        obtain ⟨vs, e1, e2, e3, e4, e5⟩ := lr_facts (hs.obs j _ hj)
        have hvl : vs.length = k * sz1 := by rw [cellsRep_length e1, e2]
        have hlen := len_part hvl hle
        have hrep := cellsRep_take (m * sz1) (cellsRep_drop (lo * sz1) e1)
        have hinn : ∀ x ∈ (l.drop (lo * sz1)).take (m * sz1), x.inn D := fun x hx => hs.scp j _ hj x (List.mem_of_mem_drop (List.mem_of_mem_take hx))
        have hr3 := range_part e3 (lo * sz1) (m * sz1)
        rcases e5 with ⟨k1, k2⟩ | ⟨cap, k1, k2, k3, k4⟩
        · have hm0 : m = 0 := by omega
          have hlo : lo = 0 := by omega
          have hM : mx.getD 0 = 0 := by
            cases mx with
            | none => rfl
            | some M =>
              simp only [Bool.and_eq_true] at hmb
              have : M ≤ k := Nat.le_of_ble_eq_true hmb.2
              simp; omega
          subst hm0 hlo
          have hv0 : ((vs.drop (0 * sz1)).take (0 * sz1)) = [] := by simp
          refine ⟨none, 0, 0, 0, _, ?_, ⟨hrep, one_part e4 _ _, hlen, ?_, fun _ => ⟨rfl, rfl⟩, fun h => absurd rfl h, Nat.zero_le _, Nat.zero_le _, fun h => absurd rfl h, fun h => absurd rfl h, fun h => absurd rfl h, fun j' hj' => ?_⟩, hinn⟩
          · rw [hu.1, k1]; simp [subHdr, hM]
          · rw [hv0]
            exact reads_slice (b := 0) (o := 0) (by simp) (fun h => absurd (by simp) h) (fun i v hv => by simp at hv)
          · rcases List.mem_singleton.1 hj' with rfl; exact ⟨_, hj⟩
        · have hM : lo + m ≤ mx.getD cap ∧ mx.getD cap ≤ cap := by
            cases mx with
            | none => simp; omega
            | some M =>
              simp only [Bool.and_eq_true] at hmb
              have h3 : lo + m ≤ M := Nat.le_of_ble_eq_true hmb.1
              have h4 : M ≤ k := Nat.le_of_ble_eq_true hmb.2
              simp; omega
          generalize hMd : mx.getD cap = M at hM
          have hu1 : u = .slice (if M = lo then some ⟨(r j).b, (r j).o, none⟩ else some ⟨(r j).b, (r j).o + lo * sz1, none⟩) m (M - lo) := by
            rw [hu.1, k1]
            simp only [subHdr, hMd]
            congr 1
            by_cases e : M = lo
            · rw [if_pos e, if_pos e]
            · rw [if_neg e, if_neg e]; simp [Addr.add_mid]
          by_cases e : M = lo
          · have hm0 : m = 0 := by omega
            subst hm0
            rw [if_pos e] at hu1
            have hv0 : ((vs.drop (lo * sz1)).take (0 * sz1)) = [] := by simp
            rw [e, Nat.sub_self] at hu1
            refine ⟨_, (r j).b, (r j).o, 0, _, hu1, ⟨hrep, one_part e4 _ _, hlen, ?_, fun h => (by cases h), fun _ => rfl, Nat.zero_le _, Nat.zero_le _, fun _ q hq => by simp at hq, fun _ => by rw [hv0]; exact fun i v hv => by simp at hv, fun _ p h1 h2 => by simp at h2; omega, fun j' hj' => ?_⟩, hinn⟩
            · rw [hv0]
              exact reads_slice (b := 0) (o := 0) (by simp) (fun h => absurd (by simp) h) (fun i v hv => by simp at hv)
            · rcases List.mem_singleton.1 hj' with rfl; exact ⟨_, hj⟩
          · rw [if_neg e] at hu1
            have hMlo : lo + (M - lo) = M := by omega
            have hbnd : lo * sz1 + (M - lo) * sz1 ≤ cap * sz1 := by rw [← Nat.add_mul, hMlo]; exact Nat.mul_le_mul_right _ hM.2
            refine ⟨_, (r j).b, (r j).o + lo * sz1, M - lo, _, hu1, ⟨hrep, one_part e4 _ _, hlen, reads_slice hlen (fun _ => rfl) hr3, fun h => (by cases h), fun _ => rfl, by omega, by omega, fun _ q hq => ?_, fun _ => hr3, fun _ p h1 h2 => ⟨j, _, by simp, hj, _, _, k1, rfl, by omega, by omega⟩, fun j' hj' => ?_⟩, hinn⟩
            · have := k4 (lo * sz1 + q) (by omega)
              rw [← Nat.add_assoc] at this; exact this
            · rcases List.mem_singleton.1 hj' with rfl; exact ⟨_, hj⟩
    · cases h
  · rename_i j off sz1 m cap
    split at h
    · rename_i l hj
      cases hb : (Nat.beq sz1 sz && (Nat.ble m cap && (Nat.ble (off + cap * sz) l.length && Nat.ble cap 140737488355328))) with
      | false => rw [hb] at h; cases h
      | true =>
        rw [hb] at h
        simp only [Bool.and_eq_true] at hb
        obtain ⟨b1, b2, b3, b4⟩ := hb
        have e0 := Nat.eq_of_beq_eq_true b1
        have hmc : m ≤ cap := Nat.le_of_ble_eq_true b2
        have hfit : off + cap * sz ≤ l.length := Nat.le_of_ble_eq_true b3
        have hcm : cap ≤ 140737488355328 := Nat.le_of_ble_eq_true b4
        subst e0
        simp only [cond_true, Option.some.injEq, Prod.mk.injEq] at h
        obtain ⟨rfl, rfl, rfl⟩ := h
        obtain ⟨vs, e1, e2, e3, e4⟩ := hs.obs j _ hj
        have hvl := cellsRep_length e1
        have hle : m * sz1 ≤ cap * sz1 := Nat.mul_le_mul_right _ hmc
        have hlen : ((vs.drop off).take (m * sz1)).length = m * sz1 := by rw [List.length_take, List.length_drop]; omega
        refine ⟨_, (r j).b, (r j).o + off, cap, _, hu, ⟨cellsRep_take _ (cellsRep_drop off e1), one_part e4 _ _, hlen, reads_slice hlen (fun _ => rfl) (range_part e2 off _), fun h => (by cases h), fun _ => rfl, hmc, Nat.le_trans hcm (by decide), fun _ q hq => ?_, fun _ => range_part e2 off _, fun _ p h1 h2 => ⟨j, _, by simp, hj, rfl, by omega, by omega⟩, fun j' hj' => ?_⟩, fun x hx => hs.scp j _ hj x (List.mem_of_mem_drop (List.mem_of_mem_take hx))⟩
        · have := e3 (off + q) (by omega)
          rw [← Nat.add_assoc] at this; exact this
        · rcases List.mem_singleton.1 hj' with rfl; exact ⟨_, hj⟩
    · cases h
  · cases h
end
section
variable {P : Program} {w0 : World} {S : Nat → Nat → Prop} {R0 : Frag} {D : Nat → Prop} {H Hr : Hf} {F : Frag} {r : Loc} {w : World} {E : Ef}
theorem Mem.newLr (h : Mem w0 S R0 D H F r w) {nx : Nat} (hnx : ¬ D nx) {js : List Nat} (hjs : ∀ j ∈ js, D j) {sz n : Nat} {cs : List Cell} (hcs : ∀ c ∈ cs, c.inn D) {vs : List Value} (hr : cellsRep F r cs vs) (h1 : ∀ v ∈ vs, v.oneCell' = true) (hl : vs.length = n * sz) {arr : Array Value} {rest : List Value} (harr : arr.toList = vs ++ rest)
    {cap : Nat} (hsz : arr.size = cap * sz) (hc : n ≤ cap) (hm : cap ≤ maxLen) {w1 : World} (hw1 : w1.heap = w.heap) (hB : Below w.heap.size w w1) (e : TypeId) :
    Mem w0 S R0 (fun j => D j ∨ j = nx) (updH ((nx, .lr sz n cs) :: deads js) H) F (locPut r nx ⟨w.heap.size, 0, .slice (some ⟨w.heap.size, 0, none⟩) n cap⟩) (w1.alloc (.cells arr e)) := by
  have hB' : Below w.heap.size w (w1.alloc (.cells arr e)) := hB.alloc (by rw [hw1]; exact Nat.le_refl _) _
  have ha := locPut_agree r hnx ⟨w.heap.size, 0, .slice (some ⟨w.heap.size, 0, none⟩) n cap⟩
  have hh : (w1.alloc (.cells arr e)).heap[w.heap.size]? = some (.cells arr e (0, 0)) := by
    show (w1.heap.push _)[w.heap.size]? = _
    rw [hw1]; simp
  have hcell : ∀ i, (w1.alloc (.cells arr e)).cell? ⟨w.heap.size, i, none⟩ = arr[i]? := fun i => by simp [World.cell?, hh]
  have hfr : ∀ i, (w1.alloc (.cells arr e)).frozen? ⟨w.heap.size, i, none⟩ = false := fun i => by simp [World.frozen?, hh]
  refine h.fresh' hnx hjs (d := ⟨w.heap.size, 0, .slice (some ⟨w.heap.size, 0, none⟩) n cap⟩) (.inr ⟨cap, vs, rfl, by rw [← cellsRep_length hr, hl], hc, hm, fun i hi => ?_, cellsRep_to (Frag.le_refl F) ha hcs hr, fun i v hv' => ?_, h1⟩) (fun c hc => Cell.inn_mono (fun _ h => .inl h) (hcs c hc)) (fun b o hfo => .inr ?_) (Fr.of_below hB' _)
  · simp only [Nat.zero_add]
    rw [hcell, hfr i]
    exact ⟨by simp; omega, rfl⟩
  · simp only [Nat.zero_add]
    rw [hcell, ← Array.getElem?_toList, harr, List.getElem?_append_left (List.getElem?_eq_some_iff.1 hv').1]
    exact hv'
  · obtain ⟨n, c, _, rfl, _⟩ := hfo; exact Nat.le_refl _
def isLr (H : Hf) : Cell → Bool
  | .h j => match H j with
    | some (.lr _ _ _) => true
    | _ => false
  | .hs j _ _ _ _ => match H j with
    | some (.lr _ _ _) => true
    | _ => false
  | _ => false
def appendC (P : Program) (H : Hf) (nx : Nat) (tys : List TypeId) (c1 c2 : Cell) : Option (Tree Eff) :=
  match tys with
  | [t1, t2] => match P.underlying t1, P.underlying t2 with
    | some (.slice e), some (.slice _) => match P.info? e with
      | some i => match i.zero with
        | some z => bif (litElem P e || (isLr H c1 || isLr H c2)) && (Nat.beq z.cells.size i.size && Nat.blt 0 i.size) then match baseC H i.size c1, contC H i.size c2 with
            | some (cs, n, js), some (xs, m) => some (.ck (bytesOk (n + m) i.bytes && Nat.ble (n + m) 140737488355328) (.ret ⟨some (AV.c (.h nx)), (nx, .lr i.size (n + m) (cs ++ xs)) :: deads js, 1⟩))
            | _, _ => none
          else none
        | none => none
      | none => none
    | _, _ => none
  | _ => none
theorem appendC_run (hs : ∀ j ob, Hr j = some ob → H j = some ob) (hm : Mem w0 S R0 D H F r w) {nx : Nat} {eff : Eff} (hnx : ∀ j, nx ≤ j → j < nx + eff.nn → ¬ D j) {tys : Array TypeId} {c1 c2 : Cell} {tr : Tree Eff}
    (ht : appendC P Hr nx tys.toList c1 c2 = some tr) (h : tr.run = some eff) {u1 u2 : Value} (hu1 : c1.rep F r u1) (hu2 : c2.rep F r u2) (ty : TypeId) :
    ∃ v w' r', (Builtin.append_ tys ty #[u1, u2]).run P w = .ok v w' ∧ After w0 S R0 D H F r nx eff F r' w' v := by
  have hsees := hm.sees.sub hs
  unfold appendC at ht
  split at ht
  · rename_i t1 t2 hty
    have hty' : tys = #[t1, t2] := by apply Array.ext'; rw [hty]
    subst hty'
    split at ht
    · rename_i e e2 ht1 ht2
      split at ht
      · rename_i i hi
        split at ht
        · rename_i z hz
          cases hb : ((litElem P e || (isLr Hr c1 || isLr Hr c2)) && (Nat.beq z.cells.size i.size && Nat.blt 0 i.size)) with
          | false => rw [hb] at ht; cases ht
          | true =>
            rw [hb] at ht
            simp only [cond_true] at ht
            simp only [Bool.and_eq_true] at hb
            have hzs := Nat.eq_of_beq_eq_true hb.2.1
            split at ht
            · rename_i cs n js xs m hbase hcont
              injection ht with ht; subst ht
              obtain ⟨hck, h⟩ := Tree.run_ck h
              simp only [Tree.run, Option.some.injEq] at h; subst h
              simp only [Bool.and_eq_true] at hck
              have hbytes : (n + m) * i.bytes ≤ 140737488355328 := Nat.le_of_ble_eq_true hck.1
              have hsmall : n + m ≤ 140737488355328 := Nat.le_of_ble_eq_true hck.2
              obtain ⟨a, b, o, cap, olds, rfl, B, hcs⟩ := baseC_run (P := P) hsees hbase hu1
              obtain ⟨vs, hxr, hone, hvl, hreads, hxs⟩ := contC_run (P := P) hsees hcont hu2
              have hjs : ∀ j ∈ js, D j := fun j hj => by
                obtain ⟨ob, ho⟩ := B.jsH j hj
                exact hm.dom j ob (hs j ob ho)
              have hfoot : ∀ bb p, (∃ j ob, j ∈ js ∧ Hr j = some ob ∧ ob.foot (r j) bb p) → ∃ j ob0, j ∈ js ∧ H j = some ob0 ∧ ob0.foot (r j) bb p := fun bb p ⟨j, ob, h1, h2, h3⟩ => ⟨j, ob, h1, hs j ob h2, h3⟩
              have hrep := cellsRep_append B.rep hxr
              have hin : ∀ c ∈ cs ++ xs, c.inn D := fun c hc => by
                rcases List.mem_append.1 hc with hc | hc
                · exact hcs c hc
                · exact hxs c hc
              have hall : ∀ v ∈ olds ++ vs, v.oneCell' = true := fun v hv => by
                rcases List.mem_append.1 hv with hv | hv
                · exact B.one v hv
                · exact hone v hv
              have hlen2 : (olds ++ vs).length = (n + m) * i.size := by rw [List.length_append, B.len, hvl, Nat.add_mul]
              have hnn := hnx nx (Nat.le_refl _) (Nat.lt_succ_self _)
              by_cases hroom : n + m ≤ cap
              · cases a with
                | none =>
                  obtain ⟨h0, h0'⟩ := B.non rfl
                  have hx0 : m = 0 := by omega
                  subst h0 hx0
                  refine ⟨.slice none 0 0, w, locPut r nx ⟨0, 0, .slice none 0 0⟩, ?_, locPut_agree r hnn _, Frag.le_refl F, ?_, fun av hav => ?_⟩
                  · rw [h0']
                    exact append_room_nil t1 t2 ty e i _ ht1 hi ht2 rfl w 0 u2 vs hreads rfl
                  · have hnil : cs ++ xs = [] := List.length_eq_zero_iff.1 (by rw [← cellsRep_length hrep, hlen2]; simp)
                    refine (hm.fresh' hnn hjs (d := ⟨0, 0, .slice none 0 0⟩) (ob := .lr i.size (0 + 0) (cs ++ xs)) (.inl ⟨rfl, rfl, hnil⟩) (fun c hc => Cell.inn_mono (fun _ h => .inl h) (hin c hc)) (fun b o hfo => ?_) (Fr.refl _ _)).monoD (fun j => More_one)
                    obtain ⟨n, c, hh, _⟩ := hfo; cases hh
                  · injection hav with hav; subst hav
                    exact ⟨⟨by rw [locPut_self], rfl⟩, More_one (.inr rfl)⟩
                | some a =>
                  have hp := B.ptr (by simp)
                  injection hp with hp; subst hp
                  have hmul : n * i.size + m * i.size ≤ cap * i.size := by rw [← Nat.add_mul]; exact Nat.mul_le_mul_right _ hroom
                  have hth := B.there (by simp)
                  have hth' : w.there b (o + n * i.size) vs.length := fun q hq => by
                    have := hth (n * i.size + q) (by omega)
                    rw [← Nat.add_assoc] at this; exact this
                  have hrun := append_room t1 t2 ty e i _ ht1 hi ht2 rfl w b o n cap m u2 vs hreads hroom hone hth'
                  have hag := locPut_agree r hnn ⟨b, o, .slice (some ⟨b, o, none⟩) (n + m) cap⟩
                  refine ⟨_, _, locPut r nx ⟨b, o, .slice (some ⟨b, o, none⟩) (n + m) cap⟩, hrun, hag, Frag.le_refl F, ?_, fun av hav => ?_⟩
                  · have hfr : Fr (fun b' o' => b' = b ∧ o + n * i.size ≤ o' ∧ o' < o + n * i.size + vs.length) w (w.setCells b (o + n * i.size) vs) := Fr.setCells w _ _ vs hth'
                    refine (hm.fresh' hnn hjs (d := ⟨b, o, .slice (some ⟨b, o, none⟩) (n + m) cap⟩) (ob := .lr i.size (n + m) (cs ++ xs)) (.inr ⟨cap, olds ++ vs, rfl, by rw [← cellsRep_length hrep, hlen2], hroom, B.max, World.there_setCells hth _ _ _, cellsRep_to (Frag.le_refl F) hag hin hrep, fun q v hq => ?_, hall⟩) (fun c hc => Cell.inn_mono (fun _ h => .inl h) (hin c hc)) (fun bb p hfo => ?_) (hfr.mono fun bb p _ hh => ?_)).monoD (fun j => More_one)
                    · have hol := B.len
                      by_cases hq' : q < olds.length
                      · rw [List.getElem?_append_left hq'] at hq
                        rw [World.cell?_setCells_out b vs _ w ⟨b, o + q, none⟩ (fun _ _ => .inl (by simp only []; omega))]
                        exact B.at_ (by simp) q v hq
                      · rw [List.getElem?_append_right (by omega)] at hq
                        have := World.rangeAt_setCells_same w b (o + n * i.size) vs hth' _ v hq
                        have e : o + q = o + n * i.size + (q - olds.length) := by omega
                        show World.cell? _ ⟨b, o + q, none⟩ = _
                        rw [e]; exact this
                    · obtain ⟨n', c, hh, rfl, p1, p2⟩ := hfo
                      injection hh with _ _ hh; subst hh
                      exact .inl (hfoot _ _ (B.foot (by simp) p p1 p2))
                    · obtain ⟨rfl, p1, p2⟩ := hh
                      exact hfoot _ _ (B.foot (by simp) p (by omega) (by omega))
                  · injection hav with hav; subst hav
                    exact ⟨⟨by rw [locPut_self], rfl⟩, More_one (.inr rfl)⟩
              · have h63 : n + m ≤ maxLen := Nat.le_trans hsmall (by decide)
                have hrun := append_grow t1 t2 ty e i z _ ht1 hi hz ht2 rfl w a n cap m u2 vs olds hreads B.reads (by omega) h63 hbytes
                have hge := grownCap_ge w (n + m) cap e
                have hcm := grownCap_le_maxLen w (n + m) cap e h63
                generalize grownCap w (n + m) cap e = gc at hrun hge hcm
                refine ⟨_, _, _, hrun, locPut_agree r hnn _, Frag.le_refl F, (hm.newLr hnn hjs hin hrep hall hlen2 (rest := (Builtin.zeroCells z.cells (gc - (n + m))).toList) (by simp) ?_ hge hcm (w1 := w.drew) rfl ((Below.refl _ _).drew) e).monoD (fun j => More_one), fun av hav => ?_⟩
                · simp only [Array.size_append, List.size_toArray, size_zeroCells, hzs, B.len, hvl]
                  rw [← Nat.add_mul, ← Nat.add_mul]
                  congr 1
                  omega
                · injection hav with hav; subst hav
                  exact ⟨⟨by rw [locPut_self], rfl⟩, More_one (.inr rfl)⟩
            · cases ht
        · cases ht
      · cases ht
    · cases ht
  · cases ht
end
section
variable {P : Program} {w0 : World} {S : Nat → Nat → Prop} {R0 : Frag} {D : Nat → Prop} {H Hr : Hf} {F : Frag} {r : Loc} {w : World} {E : Ef}
def idxC (P : Program) (H : Hf) (t : TypeId) (c : Cell) (i : Int) : Option (Tree Eff) := match P.underlying t with
  | some (.slice elem) => match pureSem P (sizeOf elem), c with
    | some sz, .h j => match H j with
      | some (.lr sz2 n _) => some (.ck (Nat.beq sz2 sz && inB i n) (.ret ⟨some (AV.c (.er j sz i.toNat 0)), [], 0⟩))
      | _ => none
    | some sz, .hs j sz1 lo n mx => match H j with
      | some (.lr sz2 m _) => some (.ck (Nat.beq sz2 sz && (Nat.beq sz1 sz && (Nat.ble (lo + n) m && (mxGt lo mx && inB i n)))) (.ret ⟨some (AV.c (.er j sz (lo + i.toNat) 0)), [], 0⟩))
      | _ => none
    | _, _ => none
  | _ => none
theorem idxC_run (hs : ∀ j ob, Hr j = some ob → H j = some ob) (hm : Mem w0 S R0 D H F r w) {nx : Nat} {eff : Eff} {t : TypeId} {c : Cell} {i : Int} {tr : Tree Eff} (ht : idxC P Hr t c i = some tr) (h : tr.run = some eff) {u : Value} (hu : c.rep F r u) (hc : c.inn D) (k : IntKind) :
    ∃ v, (Instr.indexAt t u (.int k i)).run P w = .ok v w ∧ After w0 S R0 D H F r nx eff F r w v := by
  unfold idxC at ht
  split at ht
  · rename_i elem hut
    split at ht
    · rename_i _ sz j hsz
      split at ht
      · rename_i sz2 n l hj
        injection ht with ht; subst ht
        obtain ⟨hb, h⟩ := Tree.run_ck h
        simp only [Tree.run, Option.some.injEq] at h; subst h
        simp only [Bool.and_eq_true] at hb
        have e := Nat.eq_of_beq_eq_true hb.1
        subst e
        have hi := inB_spec hb.2
        obtain ⟨vs, e1, e2, e3, e4, e5⟩ := lr_facts (hm.obs j _ (hs _ _ hj))
        rcases e5 with ⟨k1, k2⟩ | ⟨cap, k1, k2, _⟩
        · omega
        · rw [hu.1, k1]
          refine ⟨_, indexAt_slice hut hsz hi k _ _ cap, after_same rfl hm fun av' hav => ?_⟩
          injection hav with hav; subst hav
          exact ⟨⟨by simp, _, _, _, k1, hi.2.2⟩, hc⟩
      · cases ht
    · rename_i _ sz j sz1 lo n mx hsz
      split at ht
      · rename_i sz2 m l hj
        injection ht with ht; subst ht
        obtain ⟨hb, h⟩ := Tree.run_ck h
        simp only [Tree.run, Option.some.injEq] at h; subst h
        simp only [Bool.and_eq_true] at hb
        obtain ⟨b1, b2, b3, b4, b5⟩ := hb
        have e1 := Nat.eq_of_beq_eq_true b1
        have e2 := Nat.eq_of_beq_eq_true b2
        have hle : lo + n ≤ m := Nat.le_of_ble_eq_true b3
        subst e1 e2
        have hi := inB_spec b5
        obtain ⟨vs, e1, e2, e3, e4, e5⟩ := lr_facts (hm.obs j _ (hs _ _ hj))
        rcases e5 with ⟨k1, k2⟩ | ⟨cap, k1, k2, _⟩
        · omega
        · have hgt : mx.getD cap ≠ lo := by
            cases mx with
            | none => simp; omega
            | some M =>
              have : lo < M := Nat.le_of_ble_eq_true b4
              simp; omega
          rw [hu.1, k1]
          simp only [subHdr, if_neg hgt, Option.map_some, Addr.add_mid]
          refine ⟨_, indexAt_slice hut hsz hi k _ _ _, after_same rfl hm fun av' hav => ?_⟩
          injection hav with hav; subst hav
          refine ⟨⟨?_, _, _, _, k1, by omega⟩, hc⟩
          rw [Nat.add_mul, Nat.add_zero, Nat.add_assoc]
      · cases ht
    · cases ht
  · cases ht
def slcC (P : Program) (H : Hf) (t : TypeId) (c : Cell) (lo hi mx : Option Int) : Option (Tree Eff) := match P.underlying t with
  | some (.slice elem) => match pureSem P (sizeOf elem), c with
    | some sz, .h j => match H j with
      | some (.lr sz2 n _) => bif Nat.beq sz2 sz then some ((boundsA n n lo hi mx).bind fun q => .ret ⟨some (AV.c (.hs j sz q.1 (q.2.1 - q.1) (mxOf mx q.2.2))), [], 0⟩) else none
      | _ => none
    | some sz, .hs j sz1 l0 n none => match H j with
      | some (.lr sz2 m _) => bif Nat.beq sz2 sz && (Nat.beq sz1 sz && Nat.ble (l0 + n) m) then
          some ((boundsA n n lo hi none).bind fun q => match mx with
            | none => .ck (Nat.beq q.1 0 || Nat.blt q.1 n) (.ret ⟨some (AV.c (.hs j sz (l0 + q.1) (q.2.1 - q.1) none)), [], 0⟩)
            | some _ => .fail) else none
      | _ => none
    | _, _ => none
  | _ => none
theorem slcC_run (hs : ∀ j ob, Hr j = some ob → H j = some ob) (hm : Mem w0 S R0 D H F r w) {nx : Nat} {eff : Eff} {t : TypeId} {c : Cell} {lo hi mx : Option Int} {tr : Tree Eff} (ht : slcC P Hr t c lo hi mx = some tr) (h : tr.run = some eff) {u : Value} (hu : c.rep F r u) (hc : c.inn D) {lo' hi' mx' : Option Value}
    (hlo : valI lo lo') (hhi : valI hi hi') (hmx : valI mx mx') :
    ∃ v, (Instr.sliceAt t u lo' hi' mx').run P w = .ok v w ∧ After w0 S R0 D H F r nx eff F r w v := by
  unfold slcC at ht
  split at ht
  · rename_i elem hut
    split at ht
    · rename_i _ sz j hsz
      split at ht
      · rename_i sz2 n l hj
        cases hb : Nat.beq sz2 sz with
        | false => rw [hb] at ht; cases ht
        | true =>
          rw [hb] at ht
          simp only [cond_true, Option.some.injEq] at ht; subst ht
          obtain ⟨q, hq, h⟩ := Tree.run_bind_some h
          simp only [Tree.run, Option.some.injEq] at h; subst h
          have main : ∀ (a : Option Addr) (cap : Nat), (r j).hv = .slice a n cap → n ≤ cap →
              ∃ v, (Instr.sliceAt t u lo' hi' mx').run P w = .ok v w ∧ (Cell.hs j sz q.1 (q.2.1 - q.1) (mxOf mx q.2.2)).rep F r v ∧ (Cell.hs j sz q.1 (q.2.1 - q.1) (mxOf mx q.2.2)).inn D := by
            intro a cap hhv hle
            obtain ⟨hb, q1, q2, q3, q4⟩ := boundsA_run (P := P) hq hle (Nat.le_refl _) hlo hhi hmx true w
            rw [hu.1, hhv]
            refine ⟨_, sliceAt_slice hut hsz w hb, ⟨?_, rfl⟩, hc⟩
            rw [hhv]
            cases mx <;> rfl
          obtain ⟨vs, e1, e2, e3, e4, e5⟩ := lr_facts (hm.obs j _ (hs _ _ hj))
          obtain ⟨v, g1, g2, g3⟩ : ∃ v, (Instr.sliceAt t u lo' hi' mx').run P w = .ok v w ∧ (Cell.hs j sz q.1 (q.2.1 - q.1) (mxOf mx q.2.2)).rep F r v ∧ (Cell.hs j sz q.1 (q.2.1 - q.1) (mxOf mx q.2.2)).inn D := by
            rcases e5 with ⟨k1, k2⟩ | ⟨cap, k1, k2, _⟩
            · exact main none 0 (by rw [k1, k2]) (by omega)
            · exact main _ cap k1 k2
          refine ⟨v, g1, after_same rfl hm fun av' hav => ?_⟩
          injection hav with hav; subst hav
          exact ⟨g2, g3⟩
      · cases ht
    · rename_i _ sz j sz1 l0 n hsz
      split at ht
      · rename_i sz2 m l hj
        cases hb : (Nat.beq sz2 sz && (Nat.beq sz1 sz && Nat.ble (l0 + n) m)) with
        | false => rw [hb] at ht; cases ht
        | true =>
          rw [hb] at ht
          simp only [Bool.and_eq_true] at hb
          have e1 := Nat.eq_of_beq_eq_true hb.1
          have e2 := Nat.eq_of_beq_eq_true hb.2.1
          have hle : l0 + n ≤ m := Nat.le_of_ble_eq_true hb.2.2
          subst e1 e2
          simp only [cond_true, Option.some.injEq] at ht; subst ht
          obtain ⟨q, hq, h⟩ := Tree.run_bind_some h
          cases mx with
          | some _ => cases h
          | none =>
            obtain ⟨hck, h⟩ := Tree.run_ck h
            simp only [Tree.run, Option.some.injEq] at h; subst h
            have hq0 : q.1 = 0 ∨ q.1 < n := by
              simp only [Bool.or_eq_true] at hck
              rcases hck with hck | hck
              · exact .inl (Nat.eq_of_beq_eq_true hck)
              · exact .inr (Nat.le_of_ble_eq_true hck)
            have main : ∀ (a : Option Addr) (cap : Nat), (r j).hv = .slice a m cap → m ≤ cap →
                ∃ v, (Instr.sliceAt t u lo' hi' mx').run P w = .ok v w ∧ (Cell.hs j sz1 (l0 + q.1) (q.2.1 - q.1) none).rep F r v := by
              intro a cap hhv hle2
              rw [hu.1, hhv]
              simp only [subHdr, Option.getD_none]
              obtain ⟨hb, q1, q2, q3, q4⟩ := boundsA_run (P := P) hq (cap' := cap - l0) (by omega) (Nat.le_refl _) hlo hhi hmx true w
              simp only [Option.isSome_none, Bool.false_eq_true, if_false] at hb
              refine ⟨_, sliceAt_slice hut hsz w hb, ⟨?_, rfl⟩⟩
              rw [hhv]
              simp only [subHdr, Option.getD_none]
              have hq1 : q.1 ≤ n := by omega
              have e3 : cap - l0 - q.1 = cap - (l0 + q.1) := by omega
              rw [e3]
              congr 1
              by_cases c1 : cap = l0
              · have : q.1 = 0 := by omega
                rw [if_pos (by omega), if_pos c1, if_pos (by omega)]
              · rw [if_neg c1]
                by_cases c2 : cap = l0 + q.1
                · omega
                · rw [if_neg (by omega), if_neg c2]
                  cases a with
                  | none => rfl
                  | some a => simp [Addr.add_add, Nat.add_mul]
            obtain ⟨vs, e1, e2, e3, e4, e5⟩ := lr_facts (hm.obs j _ (hs _ _ hj))
            obtain ⟨v, g1, g2⟩ : ∃ v, (Instr.sliceAt t u lo' hi' mx').run P w = .ok v w ∧ (Cell.hs j sz1 (l0 + q.1) (q.2.1 - q.1) none).rep F r v := by
              rcases e5 with ⟨k1, k2⟩ | ⟨cap, k1, k2, _⟩
              · exact main none 0 (by rw [k1, k2]) (by omega)
              · exact main _ cap k1 k2
            refine ⟨v, g1, after_same rfl hm fun av' hav => ?_⟩
            injection hav with hav; subst hav
            exact ⟨g2, hc⟩
      · cases ht
    · cases ht
  · cases ht
def lenC (P : Program) (H : Hf) (t : TypeId) : Cell → Option Nat
  | .h j => match H j, P.underlying t with
    | some (.lr _ n _), some (.slice _) => some n
    | some (.cm m), some (.map _ _) => some m.length
    | _, _ => none
  | .hs j _ _ n _ => match H j, P.underlying t with
    | some (.lr _ _ _), some (.slice _) => some n
    | _, _ => none
  | _ => none
theorem centries_len {F : Frag} {r : Loc} : ∀ {m : List (Value × Part)} {es : List MapEntry}, centries F r m es → es.length = m.length
  | [], [], _ => rfl
  | [], _ :: _, h => h.elim
  | _ :: _, [], h => h.elim
  | _ :: _, _ :: _, h => by simp [centries_len h.2.2]
theorem lenC_run (hs : ∀ j ob, Hr j = some ob → H j = some ob) (hm : Mem w0 S R0 D H F r w) {t : TypeId} {c : Cell} {n : Nat} (h : lenC P Hr t c = some n) {u : Value} (hu : c.rep F r u) (ts : Array TypeId) (hts : ts.toList = [t]) (ty : TypeId) :
    (Builtin.len_ ts ty #[u]).run P w = .ok (goInt n) w := by
  have hty : ts = #[t] := by apply Array.ext'; rw [hts]
  subst hty
  unfold lenC at h
  split at h
  · rename_i j
    split at h
    · rename_i sz2 m l e hj hut
      injection h with h; subst h
      obtain ⟨vs, e1, e2, e3, e4, e5⟩ := lr_facts (hm.obs j _ (hs _ _ hj))
      rw [hu.1]
      rcases e5 with ⟨k1, k2⟩ | ⟨cap, k1, k2, _⟩
      · rw [k1, k2]; simp [Builtin.len_, run_underlying hut]
      · rw [k1]; simp [Builtin.len_, run_underlying hut]
    · rename_i m k e hj hut
      injection h with h; subst h
      obtain ⟨h0, es, clock, h1, h2, _⟩ := hm.obs j _ (hs _ _ hj)
      rw [hu.1, h0]
      have hl : es.size = m.length := by simpa using centries_len h2
      simp [Builtin.len_, run_underlying hut, Go.MapKept.run_getObj_map h1, hl]
    · cases h
  · rename_i j sz1 lo n0 mx
    split at h
    · rename_i sz2 m l e hj hut
      injection h with h; subst h
      obtain ⟨vs, e1, e2, e3, e4, e5⟩ := lr_facts (hm.obs j _ (hs _ _ hj))
      rw [hu.1]
      rcases e5 with ⟨k1, k2⟩ | ⟨cap, k1, k2, _⟩
      · rw [k1]; simp [subHdr, Builtin.len_, run_underlying hut]
      · rw [k1]; simp [subHdr, Builtin.len_, run_underlying hut]
    · cases h
  · cases h
/-! ### Elements of rows of cells: read and written -/
def ldC (P : Program) (H : Hf) (t : TypeId) : Cell → Option Part
  | .er j sz idx off => match H j with
    | some (.lr sz2 n l) => bif Nat.beq sz2 sz then partA P t l (idx * sz + off) else none
    | _ => none
  | _ => none
theorem ldC_run (hs : ∀ j ob, Hr j = some ob → H j = some ob) (hm : Mem w0 S R0 D H F r w) {t : TypeId} {c : Cell} {x : Part} (h : ldC P Hr t c = some x) {u : Value} (hu : c.rep F r u) :
    ∃ v, (Instr.loadAt t u).run P w = .ok v w ∧ x.rep F r v ∧ x.inn D := by
  unfold ldC at h
  split at h
  · rename_i j sz idx off
    split at h
    · rename_i sz2 n l hj
      cases hb : Nat.beq sz2 sz with
      | false => rw [hb] at h; cases h
      | true =>
        rw [hb] at h
        simp only [cond_true] at h
        obtain ⟨vs, e1, e2, e3, e4, e5⟩ := lr_facts (hm.obs j _ (hs _ _ hj))
        obtain ⟨v, g1, g2⟩ := loadVar_part e1 e3 h
        rw [hu.1]
        refine ⟨v, ?_, g2, partA_inn (hm.scp j _ (hs _ _ hj)) h⟩
        simp only [Instr.loadAt, Instr.sureAddr, Sem.run_bind, Sem.run_pure, Result.andThen_ok]
        exact g1
    · cases h
  · cases h
theorem Mem.setLr (h : Mem w0 S R0 D H F r w) {j : Nat} {sz n : Nat} {l l' : List Cell} (hj : H j = some (.lr sz n l)) (hv : (r j).hv ≠ .slice none 0 0) {us : List Value} {p : Nat} (hl : l'.length = l.length) (hin : ∀ c ∈ l', c.inn D) (h1 : ∀ v ∈ us, v.oneCell' = true) (hp : p + us.length ≤ l.length)
    (hrep : ∀ vs, cellsRep F r l vs → cellsRep F r l' (vs.take p ++ (us ++ vs.drop (p + us.length)))) : Mem w0 S R0 D (updH [(j, .lr sz n l')] H) F r (w.setCells (r j).b ((r j).o + p) us) := by
  rcases h.obs j _ hj with ⟨g, _⟩ | ⟨cap, vs, k1, k2, k3, k4, k5, g1, g2, g4⟩
  · exact absurd g hv
  · have hvl := cellsRep_length g1
    have hle : n * sz ≤ cap * sz := Nat.mul_le_mul_right _ k3
    have g3 : w.there (r j).b (r j).o vs.length := fun q hq => k5 q (by omega)
    have hth : w.there (r j).b ((r j).o + p) us.length := fun q hq => by have := g3 (p + q) (by omega); rw [← Nat.add_assoc] at this; exact this
    refine h.renew hj (.inr ⟨cap, _, k1, by rw [hl]; exact k2, k3, k4, World.there_setCells k5 _ _ _, hrep vs g1, range_put g2 g3 (by omega), fun v hv => ?_⟩) hin (fun b o hfo => hfo) ((Fr.setCells w _ _ us hth).mono fun b o _ hh => ?_)
    · rcases List.mem_append.1 hv with hv | hv
      · exact g4 v (List.mem_of_mem_take hv)
      · rcases List.mem_append.1 hv with hv | hv
        · exact h1 v hv
        · exact g4 v (List.mem_of_mem_drop hv)
    · obtain ⟨rfl, p1, p2⟩ := hh; exact ⟨_, _, k1, rfl, by omega, by omega⟩
def stC (P : Program) (H : Hf) (t : TypeId) (ca : Cell) (q : Part) : Option (List (Nat × Ob)) := match ca with
  | .er j sz idx off => match H j, pureSem P (sizeOf t) with
    | some (.lr sz2 n l), some m => bif Nat.beq sz2 sz && (Nat.beq q.cells.length m && (okAll q.cells && Nat.ble (idx * sz + off + m) l.length)) then some [(j, .lr sz2 n (putR l (idx * sz + off) q.cells))] else none
    | _, _ => none
  | _ => none
theorem stC_run (hs : ∀ j ob, Hr j = some ob → H j = some ob) (hm : Mem w0 S R0 D H F r w) {t : TypeId} {ca : Cell} {q : Part} {ups : List (Nat × Ob)} (h : stC P Hr t ca q = some ups)
    {a u : Value} (ha : ca.rep F r a) (hu : q.rep F r u) (hq : q.inn D) :
    ∃ w', (Instr.storeAt t a u).run P w = .ok () w' ∧ Mem w0 S R0 D (updH ups H) F r w' := by
  unfold stC at h
  split at h
  · rename_i j sz idx off
    split at h
    · rename_i sz2 n l m hj hn
      cases hb : (Nat.beq sz2 sz && (Nat.beq q.cells.length m && (okAll q.cells && Nat.ble (idx * sz + off + m) l.length))) with
      | false => rw [hb] at h; cases h
      | true =>
        rw [hb] at h
        simp only [cond_true, Option.some.injEq] at h; subst h
        simp only [Bool.and_eq_true] at hb
        have hqn := Nat.eq_of_beq_eq_true hb.2.1
        have hle : idx * sz + off + m ≤ l.length := Nat.le_of_ble_eq_true hb.2.2.2
        obtain ⟨us, hus, hur, hu1⟩ := Part.cells_rep hb.2.2.1 hu
        have hul := cellsRep_length hur
        have hqi := Part.cells_inn hq
        have hj' := hs _ _ hj
        obtain ⟨hau, aa, nn, cc, hhv, hidx⟩ := ha
        rcases hm.obs j _ hj' with ⟨g, g0, _⟩ | ⟨cap, vs, k1, k2, k3, k4, k5, g1, g2, g4⟩
        · rw [g] at hhv; injection hhv with _ e _; omega
        · have hle2 : n * sz2 ≤ cap * sz2 := Nat.mul_le_mul_right _ k3
          have hth : w.there (r j).b ((r j).o + (idx * sz + off)) us.length := fun i hi => by have := k5 (idx * sz + off + i) (by omega); rw [← Nat.add_assoc] at this; exact this
          rw [hau]
          refine ⟨_, storeAt_run hn hus (by omega) hu1 hth, hm.setLr hj' (by rw [k1]; simp) (putR_length (by omega)) (fun c hc => ?_) hu1 (by omega) (fun vs' hv' => putR_rep hv' hur)⟩
          rcases putR_mem hc with hc | hc
          · exact hm.scp j _ hj' c hc
          · exact hqi c hc
    · cases h
  · cases h
def stY (P : Program) (H : Hf) (t : TypeId) (ca : Cell) (q : Part) : Option (List (Nat × Ob)) := match ca with
  | .er j _ _ _ => bif hasYc q.cells && isRowO (H j) then stC P (thawH H j) t ca q else none
  | _ => none
def stX (P : Program) (H : Hf) (t : TypeId) (ca : Cell) (q : Part) : Option (List (Nat × Ob)) := match stC P H t ca q with
  | some ups => some ups
  | none => stY P H t ca q
theorem stC_one {H : Hf} {t : TypeId} {j sz idx off : Nat} {q : Part} {ups : List (Nat × Ob)} (h : stC P H t (.er j sz idx off) q = some ups) : ∃ o, ups = [(j, o)] := by
  unfold stC at h
  simp only [] at h
  split at h
  · rename_i sz2 n l m _ _
    cases hb : (Nat.beq sz2 sz && (Nat.beq q.cells.length m && (okAll q.cells && Nat.ble (idx * sz + off + m) l.length))) with
    | false => rw [hb] at h; cases h
    | true => rw [hb] at h; simp only [cond_true, Option.some.injEq] at h; exact ⟨_, h.symm⟩
  · cases h
theorem stX_run (hs : ∀ j ob, Hr j = some ob → H j = some ob) (hm : Mem w0 S R0 D H F r w) {t : TypeId} {ca : Cell} {q : Part} {ups : List (Nat × Ob)} (h : stX P Hr t ca q = some ups)
    {a u : Value} (ha : ca.rep F r a) (hu : q.rep F r u) (hq : q.inn D) :
    ∃ w', (Instr.storeAt t a u).run P w = .ok () w' ∧ Mem w0 S R0 D (updH ups H) F r w' := by
  unfold stX at h
  split at h
  · rename_i l hl
    injection h with h; subst h
    exact stC_run hs hm hl ha hu hq
  · unfold stY at h
    split at h
    · rename_i j sz idx off _
      cases hb : (hasYc q.cells && isRowO (Hr j)) with
      | false => rw [hb] at h; cases h
      | true =>
        rw [hb] at h
        simp only [cond_true] at h
        obtain ⟨o, rfl⟩ := stC_one h
        obtain ⟨w', g1, g2⟩ := stC_run (thawH_sub hs) (hm.thaw j) h ha hu hq
        rw [thawH_upd] at g2
        exact ⟨w', g1, g2⟩
    · cases h
/-! ### Cells copied, cells cleared -/
def copyC (P : Program) (H : Hf) (tys : List TypeId) (c1 c2 : Cell) : Option Eff := match tys with
  | [t1, _] => match P.underlying t1 with
    | some (.slice e) => match P.info? e, c1 with
      | some i, .s j off sz n cap => match H j, contC H i.size c2 with
        | some (.lit l), some (xs, m) => bif litElem P e && (Nat.beq sz i.size && Nat.ble (off + n * sz) l.length) then
            some ⟨some (AV.c (.v (.int .i64 (Nat.min m n)))), [(j, .lit (putR l off (xs.take (Nat.min m n * sz))))], 0⟩ else none
        | _, _ => none
      | _, _ => none
    | _ => none
  | _ => none
theorem copyC_run (hs : ∀ j ob, Hr j = some ob → H j = some ob) (hm : Mem w0 S R0 D H F r w) {nx : Nat} {tys : Array TypeId} {c1 c2 : Cell} {eff : Eff}
    (h : copyC P Hr tys.toList c1 c2 = some eff) {u1 u2 : Value} (hu1 : c1.rep F r u1) (hu2 : c2.rep F r u2) (ty : TypeId) :
    ∃ v w', (Builtin.copy_ tys ty #[u1, u2]).run P w = .ok v w' ∧ After w0 S R0 D H F r nx eff F r w' v := by
  have hsees := hm.sees.sub hs
  unfold copyC at h
  split at h
  · rename_i t1 t2 hty
    have hty' : tys = #[t1, t2] := by apply Array.ext'; rw [hty]
    subst hty'
    split at h
    · rename_i e ht1
      split at h
      · rename_i _ i j off sz n cap hi
        split at h
        · rename_i l xs m hj hcont
          cases hb : (litElem P e && (Nat.beq sz i.size && Nat.ble (off + n * sz) l.length)) with
          | false => rw [hb] at h; cases h
          | true =>
            rw [hb] at h
            simp only [cond_true, Option.some.injEq] at h; subst h
            simp only [Bool.and_eq_true] at hb
            have hsz := Nat.eq_of_beq_eq_true hb.2.1
            have hfit : off + n * sz ≤ l.length := Nat.le_of_ble_eq_true hb.2.2
            obtain ⟨vs, hxr, hone, hvl, hreads, hxs⟩ := contC_run (P := P) hsees hcont hu2
            have hj' := hs _ _ hj
            obtain ⟨ws, g1, g2, g3, g4⟩ := hm.obs j _ hj'
            rw [← hsz] at hvl hreads
            have hth : w.there (r j).b ((r j).o + off) (n * i.size) := fun q hq => by
              have := g3 (off + q) (by rw [← hsz] at hq; omega)
              rw [← Nat.add_assoc] at this; exact this
            have hrun := copy_run w t1 t2 ty e i ht1 hi (r j).b ((r j).o + off) n cap m u2 vs (by rw [← hsz]; exact hreads) hone hth
            rw [← hsz] at hrun
            have hmin1 : Nat.min m n * sz ≤ n * sz := Nat.mul_le_mul_right _ (Nat.min_le_right _ _)
            have hmin2 : Nat.min m n * sz ≤ m * sz := Nat.mul_le_mul_right _ (Nat.min_le_left _ _)
            have htr := cellsRep_take (Nat.min m n * sz) hxr
            have htl : (vs.take (Nat.min m n * sz)).length = Nat.min m n * sz := by rw [List.length_take]; omega
            have htc : (xs.take (Nat.min m n * sz)).length = Nat.min m n * sz := by rw [← cellsRep_length htr, htl]
            rw [show u1 = _ from hu1]
            refine ⟨_, _, hrun, after_same rfl (hm.setLit hj' (putR_length (by omega)) (fun c hc => ?_) (fun v hv => hone v (List.mem_of_mem_take hv)) (by omega) (fun vs' hv' => putR_rep hv' htr)) (fun av hav => ?_)⟩
            · rcases putR_mem hc with hc | hc
              · exact hm.scp j _ hj' c hc
              · exact hxs c (List.mem_of_mem_take hc)
            · injection hav with hav; subst hav
              exact ⟨rfl, trivial⟩
        · cases h
      · cases h
    · cases h
  · cases h
def copyD (P : Program) (H : Hf) (tys : List TypeId) (c1 c2 : Cell) : Option Eff := match tys with
  | [t1, _] => match P.underlying t1 with
    | some (.slice e) => match P.info? e, c1 with
      | some i, .hs j sz lo n none => match thawH H j j, contC H i.size c2 with
        | some (.lr sz2 k l), some (xs, m) => bif (hasYc xs || !(isRowO (H j))) && (Nat.beq sz2 sz && (Nat.beq sz i.size && (Nat.blt lo k && Nat.ble (lo + n) k))) then
            some ⟨some (AV.c (.v (.int .i64 (Nat.min m n)))), [(j, .lr sz2 k (putR l (lo * sz) (xs.take (Nat.min m n * sz))))], 0⟩ else none
        | _, _ => none
      | _, _ => none
    | _ => none
  | _ => none
theorem copyD_run (hs : ∀ j ob, Hr j = some ob → H j = some ob) (hm : Mem w0 S R0 D H F r w) {nx : Nat} {tys : Array TypeId} {c1 c2 : Cell} {eff : Eff}
    (h : copyD P Hr tys.toList c1 c2 = some eff) {u1 u2 : Value} (hu1 : c1.rep F r u1) (hu2 : c2.rep F r u2) (ty : TypeId) :
    ∃ v w', (Builtin.copy_ tys ty #[u1, u2]).run P w = .ok v w' ∧ After w0 S R0 D H F r nx eff F r w' v := by
  have hsees := hm.sees.sub hs
  unfold copyD at h
  split at h
  · rename_i t1 t2 hty
    have hty' : tys = #[t1, t2] := by apply Array.ext'; rw [hty]
    subst hty'
    split at h
    · rename_i e ht1
      split at h
      · rename_i _ i j sz lo n hi
        split at h
        · rename_i sz2 k l xs m hj hcont
          cases hb : ((hasYc xs || !(isRowO (Hr j))) && (Nat.beq sz2 sz && (Nat.beq sz i.size && (Nat.blt lo k && Nat.ble (lo + n) k)))) with
          | false => rw [hb] at h; cases h
          | true =>
            rw [hb] at h
            simp only [cond_true, Option.some.injEq] at h; subst h
            simp only [Bool.and_eq_true] at hb
            have hsz2 := Nat.eq_of_beq_eq_true hb.2.1
            have hsz := Nat.eq_of_beq_eq_true hb.2.2.1
            have hlo : lo < k := Nat.le_of_ble_eq_true hb.2.2.2.1
            have hfit : lo + n ≤ k := Nat.le_of_ble_eq_true hb.2.2.2.2
            subst hsz2
            obtain ⟨vs, hxr, hone, hvl, hreads, hxs⟩ := contC_run (P := P) hsees hcont hu2
            have hm' := hm.thaw j
            have hj' := thawH_sub hs _ _ hj
            rcases hm'.obs j _ hj' with ⟨_, g0, _⟩ | ⟨cap, ws, k1, k2, k3, k4, k5, g1, g2, g4⟩
            · omega
            · rw [← hsz] at hvl hreads
              have hk : k * sz2 ≤ cap * sz2 := Nat.mul_le_mul_right _ k3
              have hln : (lo + n) * sz2 ≤ k * sz2 := Nat.mul_le_mul_right _ hfit
              rw [Nat.add_mul] at hln
              have hth : w.there (r j).b ((r j).o + lo * sz2) (n * i.size) := fun q hq => by
                have := k5 (lo * sz2 + q) (by rw [← hsz] at hq; omega)
                rw [← Nat.add_assoc] at this; exact this
              have hrun := copy_run w t1 t2 ty e i ht1 hi (r j).b ((r j).o + lo * sz2) n (cap - lo) m u2 vs (by rw [← hsz]; exact hreads) hone hth
              rw [← hsz] at hrun
              have hmin1 : Nat.min m n * sz2 ≤ n * sz2 := Nat.mul_le_mul_right _ (Nat.min_le_right _ _)
              have hmin2 : Nat.min m n * sz2 ≤ m * sz2 := Nat.mul_le_mul_right _ (Nat.min_le_left _ _)
              have htr := cellsRep_take (Nat.min m n * sz2) hxr
              have htl : (vs.take (Nat.min m n * sz2)).length = Nat.min m n * sz2 := by rw [List.length_take]; omega
              have htc : (xs.take (Nat.min m n * sz2)).length = Nat.min m n * sz2 := by rw [← cellsRep_length htr, htl]
              have hu1' : u1 = .slice (some ⟨(r j).b, (r j).o + lo * sz2, none⟩) n (cap - lo) := by
                rw [hu1.1, k1]
                show Value.slice (if cap = lo then _ else _) n (cap - lo) = _
                rw [if_neg (by omega)]
                simp only [Option.map_some, Addr.add_mid]
              rw [hu1']
              have hset := hm'.setLr hj' (by rw [k1]; simp) (l' := putR l (lo * sz2) (xs.take (Nat.min m n * sz2))) (us := vs.take (Nat.min m n * sz2)) (p := lo * sz2) (putR_length (by omega)) (fun c hc => ?_) (fun v hv => hone v (List.mem_of_mem_take hv)) (by omega) (fun vs' hv' => putR_rep hv' htr)
              · rw [thawH_upd] at hset
                refine ⟨_, _, hrun, after_same rfl hset (fun av hav => ?_)⟩
                injection hav with hav; subst hav
                exact ⟨rfl, trivial⟩
              · rcases putR_mem hc with hc | hc
                · exact hm'.scp j _ hj' c hc
                · exact hxs c (List.mem_of_mem_take hc)
        · cases h
      · cases h
    · cases h
  · cases h
/-! ### A string of bytes that are not known -/
def byteC : Cell → Option (BitVec IntKind.u8.bits)
  | .w .u8 b => some b
  | .y _ (.w .u8 b) => some b
  | _ => none
def bytesC : List Cell → Option (List (Tys.den bytesTs))
  | [] => some []
  | c :: l => match byteC c with
    | some b => match bytesC l with
      | some r => some ((b, ()) :: r)
      | none => none
    | none => none
def markC : List Cell → Nat → Nat
  | [], m => m
  | .y i _ :: l, m => markC l (2 * ((7 * m + 3 * (i + 1)) % 1000003))
  | _ :: l, m => markC l (2 * ((7 * m + 1) % 1000003))
theorem byteC_rep {F : Frag} {r : Loc} {c : Cell} {b : BitVec IntKind.u8.bits} (h : byteC c = some b) {v : Value} (hv : c.rep F r v) : v = .int .u8 (b.toNat : Int) := by
  unfold byteC at h
  split at h
  · injection h with h; subst h; exact hv
  · injection h with h; subst h; exact hv
  · cases h
theorem bytesC_rep {F : Frag} {r : Loc} : ∀ {cs : List Cell} {l : List (Tys.den bytesTs)} {vs : List Value}, bytesC cs = some l → cellsRep F r cs vs → vs = l.map fun x => .int .u8 (x.1.toNat : Int)
  | [], l, [], h, _ => by simp only [bytesC, Option.some.injEq] at h; subst h; rfl
  | [], _, _ :: _, _, h => h.elim
  | _ :: _, _, [], _, h => h.elim
  | c :: cs, l, v :: vs, h, hr => by
    simp only [bytesC] at h
    split at h
    · rename_i b hb
      split at h
      · rename_i r' hr'
        injection h with h; subst h
        rw [List.map_cons, byteC_rep hb hr.1, bytesC_rep hr' hr.2]
      · cases h
    · cases h
/-! ### Bytes, whoever knows how many, are copied over a row of bytes -/
def byU (xs : List (Tys.den bytesTs)) (i : Nat) (b : BitVec IntKind.u8.bits) : BitVec IntKind.u8.bits := match xs[i]? with
  | some x => x.1
  | none => b
def cpU (xs : List (Tys.den bytesTs)) : List Cell → Nat → Option (List Cell)
  | [], _ => some []
  | c :: cs, i => match byteC c with
    | some b => match cpU xs cs (i + 1) with
      | some r => some (.y (600000 + 2 * i) (.w .u8 (byU xs i b)) :: r)
      | none => none
    | none => none
theorem cpU_rep {F : Frag} {r : Loc} {xs : List (Tys.den bytesTs)} : ∀ {cs : List Cell} {i : Nat} {out : List Cell} {vs : List Value}, cpU xs cs i = some out → cellsRep F r cs vs →
    cellsRep F r out (((xs.drop i).map fun x => Value.int .u8 (x.1.toNat : Int)).take cs.length ++ vs.drop (Nat.min (xs.length - i) cs.length)) ∧ out.length = cs.length
  | [], i, out, [], h, _ => by
    simp only [cpU, Option.some.injEq] at h; subst h
    simp only [List.length_nil, List.take_zero, List.drop_nil, List.append_nil, and_true]
    trivial
  | [], _, _, _ :: _, _, h => h.elim
  | _ :: _, _, _, [], _, h => h.elim
  | c :: cs, i, out, v :: vs, h, hr => by
    simp only [cpU] at h
    split at h
    · rename_i b hb
      split at h
      · rename_i r' hr'
        injection h with h; subst h
        obtain ⟨ih, il⟩ := cpU_rep hr' hr.2
        refine ⟨?_, by simp only [List.length_cons, il]⟩
        rcases Nat.lt_or_ge i xs.length with hlt | hge
        · have h1 : xs.drop i = xs[i] :: xs.drop (i + 1) := List.drop_eq_getElem_cons hlt
          have h2 : Nat.min (xs.length - i) (c :: cs).length = Nat.min (xs.length - (i + 1)) cs.length + 1 := by
            have e1 : xs.length - i = (xs.length - (i + 1)) + 1 := by omega
            rw [e1, List.length_cons]
            exact Nat.add_min_add_right _ _ _
          rw [h1, h2, List.map_cons, List.length_cons, List.take_succ_cons, List.drop_succ_cons]
          refine ⟨?_, ih⟩
          show Value.int .u8 _ = Value.int .u8 _
          unfold byU
          rw [List.getElem?_eq_getElem hlt]
        · have h1 : xs.drop i = [] := List.drop_eq_nil_of_le hge
          have h3 : xs.drop (i + 1) = [] := List.drop_eq_nil_of_le (by omega)
          have h2 : Nat.min (xs.length - i) (c :: cs).length = 0 := by
            have : xs.length - i = 0 := by omega
            rw [this]; exact Nat.zero_min _
          have h4 : Nat.min (xs.length - (i + 1)) cs.length = 0 := by
            have : xs.length - (i + 1) = 0 := by omega
            rw [this]; exact Nat.zero_min _
          rw [h1, h2]
          rw [h3, h4] at ih
          have ih' : cellsRep F r r' vs := by simpa using ih
          refine ⟨?_, ih'⟩
          have hn : xs[i]? = none := List.getElem?_eq_none hge
          show v = Value.int .u8 _
          unfold byU
          rw [hn, byteC_rep hb hr.1]
      · cases h
    · cases h
theorem cpU_inn {D : Nat → Prop} {xs : List (Tys.den bytesTs)} : ∀ {cs : List Cell} {i : Nat} {out : List Cell}, cpU xs cs i = some out → ∀ c ∈ out, c.inn D
  | [], i, out, h, c, hc => by simp only [cpU, Option.some.injEq] at h; subst h; cases hc
  | c0 :: cs, i, out, h, c, hc => by
    simp only [cpU] at h
    split at h
    · split at h
      · rename_i r' hr'
        injection h with h; subst h
        rcases List.mem_cons.1 hc with rfl | hc
        · trivial
        · exact cpU_inn hr' c hc
      · cases h
    · cases h
def copyU (P : Program) (H : Hf) (tys : List TypeId) (c1 c2 : Cell) : Option Eff := match tys, c1, c2 with
  | [t1, _], .h j, .d ts xs => match P.underlying t1 with
    | some (.slice e) => bif isBytes P e then match P.info? e, thawH H j j, (contT H bytesTs (.d ts xs)).run with
      | some i, some (.lr sz k l), some xs => match cpU xs l 0 with
        | some out => bif Nat.beq i.size 1 && (Nat.beq sz 1 && Nat.blt 0 k) then
            some ⟨some (AV.c (.y 599998 (.v (.int .i64 (Nat.min xs.length k))))), [(j, .lr sz k out)], 0⟩ else none
        | none => none
      | _, _, _ => none
      else none
    | _ => none
  | _, _, _ => none
theorem copyU_run (hs : ∀ j ob, Hr j = some ob → H j = some ob) (hm : Mem w0 S R0 D H F r w) {nx : Nat} {tys : Array TypeId} {c1 c2 : Cell} {eff : Eff}
    (h : copyU P Hr tys.toList c1 c2 = some eff) {u1 u2 : Value} (hu1 : c1.rep F r u1) (hu2 : c2.rep F r u2) (ty : TypeId) :
    ∃ v w', (Builtin.copy_ tys ty #[u1, u2]).run P w = .ok v w' ∧ After w0 S R0 D H F r nx eff F r w' v := by
  have hsees := hm.sees.sub hs
  unfold copyU at h
  split at h
  · rename_i t1 t2 j ts xs0 hty
    have hty' : tys = #[t1, t2] := by apply Array.ext'; rw [hty]
    subst hty'
    split at h
    · rename_i e ht1
      cases hbe : isBytes P e with
      | false => rw [hbe] at h; cases h
      | true =>
      rw [hbe, cond_true] at h
      split at h
      · rename_i i sz k l xs hi hj hcont
        split at h
        · rename_i out hout
          cases hb : (Nat.beq i.size 1 && (Nat.beq sz 1 && Nat.blt 0 k)) with
          | false => rw [hb] at h; cases h
          | true =>
            rw [hb] at h
            simp only [cond_true, Option.some.injEq] at h; subst h
            simp only [Bool.and_eq_true] at hb
            have his : i.size = 1 := Nat.eq_of_beq_eq_true hb.1
            have hsz : sz = 1 := Nat.eq_of_beq_eq_true hb.2.1
            have hk0 : 0 < k := Nat.le_of_ble_eq_true hb.2.2
            subst hsz
            obtain ⟨vs, hv, hreads⟩ := contT_run (P := P) hsees hcont hu2
            have hvs := byteVals hv
            have hm' := hm.thaw j
            have hj' := thawH_sub hs _ _ hj
            rcases hm'.obs j _ hj' with ⟨_, g0, _⟩ | ⟨cap, ws, k1, k2, k3, k4, k5, g1, g2, g4⟩
            · omega
            · have hth : w.there (r j).b (r j).o (k * i.size) := fun q hq => k5 q (by rw [his] at hq; omega)
              have hrun := copy_run w t1 t2 ty e i ht1 hi (r j).b (r j).o k cap xs.length u2 vs (by rw [his]; exact hreads) (fun v hv' => by rw [hvs] at hv'; obtain ⟨x, _, rfl⟩ := List.mem_map.1 hv'; rfl) hth
              rw [his, Nat.mul_one] at hrun
              have hvl : vs.length = xs.length := by rw [hvs, List.length_map]
              have hmin1 : Nat.min xs.length k ≤ xs.length := Nat.min_le_left _ _
              have hmin2 : Nat.min xs.length k ≤ k := Nat.min_le_right _ _
              have hll : l.length = k := by rw [k2, Nat.mul_one]
              have htl : (vs.take (Nat.min xs.length k)).length = Nat.min xs.length k := by rw [List.length_take]; omega
              have hu1' : u1 = .slice (some ⟨(r j).b, (r j).o, none⟩) k cap := by rw [hu1.1, k1]
              rw [hu1']
              have hset := hm'.setLr hj' (by rw [k1]; simp) (l' := out) (us := vs.take (Nat.min xs.length k)) (p := 0) (cpU_rep hout g1).2 (fun c hc => cpU_inn hout c hc) (fun v hv' => by have := List.mem_of_mem_take hv'; rw [hvs] at this; obtain ⟨x, _, rfl⟩ := List.mem_map.1 this; rfl) (by omega) (fun vs' hv' => by
                have := (cpU_rep hout hv').1
                rw [Nat.sub_zero, hll, List.drop_zero, ← hvs] at this
                rw [List.take_zero, List.nil_append, Nat.zero_add, htl]
                have e1 : vs.take k = vs.take (Nat.min xs.length k) := by
                  rcases Nat.le_total xs.length k with hle | hle
                  · rw [List.take_of_length_le (by omega), List.take_of_length_le (by have : Nat.min xs.length k = xs.length := Nat.min_eq_left hle; omega)]
                  · rw [show Nat.min xs.length k = k from Nat.min_eq_right hle]
                rw [e1] at this
                exact this)
              rw [thawH_upd, Nat.add_zero] at hset
              refine ⟨_, _, hrun, after_same rfl hset (fun av hav => ?_)⟩
              injection hav with hav; subst hav
              exact ⟨rfl, trivial⟩
        · cases h
      · cases h
    · cases h
  · cases h
theorem copy_zero {P : Program} (w : World) (dT sT ty elem : TypeId) (i : TypeInfo) (hu : P.underlying dT = some (.slice elem)) (hi : P.info? elem = some i) (a : Option Addr) (dLen dCap m : Nat) (x : Value) (vs : List Value)
    (hx : Reads P w i.size m x vs) (h0 : Nat.min m dLen = 0) : (Builtin.copy_ #[dT, sT] ty #[.slice a dLen dCap, x]).run P w = .ok (goInt 0) w := by
  have hl := hx.1
  have hf := hx.2.2 0 (Nat.zero_le _) w rfl
  simp only [Builtin.copy_, List.getElem?_toArray, List.getElem?_cons_zero, List.getElem?_cons_succ, Sem.run_bind, run_underlying hu, Result.andThen_ok, hl, Sem.run_pure, sizeOf, typeInfo, h0]
  cases a <;> simp [hi, hf, storeCells]
def objC : Cell → Nat
  | .h j => j
  | .hs j _ _ _ _ => j
  | _ => 0
def thaw2 (H : Hf) (c1 c2 : Cell) : Hf := thawH (thawH H (objC c1)) (objC c2)
def copyZ (P : Program) (H : Hf) (tys : List TypeId) (c1 c2 : Cell) : Option Eff := match tys with
  | [t1, _] => match P.underlying t1 with
    | some (.slice e) => match P.info? e with
      | some i => match baseC (thaw2 H c1 c2) i.size c1, contC (thaw2 H c1 c2) i.size c2 with
        | some (_, n, _), some (_, m) => bif Nat.beq (Nat.min m n) 0 then some ⟨some (AV.c (.v (.int .i64 0))), [], 0⟩ else none
        | _, _ => none
      | none => none
    | _ => none
  | _ => none
theorem copyZ_run (hs : ∀ j ob, Hr j = some ob → H j = some ob) (hm : Mem w0 S R0 D H F r w) {nx : Nat} {tys : Array TypeId} {c1 c2 : Cell} {eff : Eff}
    (h : copyZ P Hr tys.toList c1 c2 = some eff) {u1 u2 : Value} (hu1 : c1.rep F r u1) (hu2 : c2.rep F r u2) (ty : TypeId) :
    ∃ v w', (Builtin.copy_ tys ty #[u1, u2]).run P w = .ok v w' ∧ After w0 S R0 D H F r nx eff F r w' v := by
  have hsees := ((hm.thaw (objC c1)).thaw (objC c2)).sees.sub (thawH_sub (thawH_sub hs))
  unfold copyZ at h
  split at h
  · rename_i t1 t2 hty
    have hty' : tys = #[t1, t2] := by apply Array.ext'; rw [hty]
    subst hty'
    split at h
    · rename_i e ht1
      split at h
      · rename_i i hi
        split at h
        · rename_i cs n js xs m hbase hcont
          cases hb : Nat.beq (Nat.min m n) 0 with
          | false => rw [hb] at h; cases h
          | true =>
            rw [hb] at h
            simp only [cond_true, Option.some.injEq] at h; subst h
            obtain ⟨vs, _, _, _, hreads, _⟩ := contC_run (P := P) hsees hcont hu2
            obtain ⟨a, b, o, cap, vs1, rfl, _, _⟩ := baseC_run (P := P) hsees hbase hu1
            refine ⟨_, _, copy_zero w t1 t2 ty e i ht1 hi a n cap m u2 vs hreads (Nat.eq_of_beq_eq_true hb), after_same rfl hm (fun av hav => ?_)⟩
            injection hav with hav; subst hav
            exact ⟨rfl, trivial⟩
        · cases h
      · cases h
    · cases h
  · cases h
def copyX (P : Program) (H : Hf) (tys : List TypeId) (c1 c2 : Cell) : Option Eff := match copyC P H tys c1 c2 with
  | some e => some e
  | none => match copyD P H tys c1 c2 with
    | some e => some e
    | none => match copyU P H tys c1 c2 with
      | some e => some e
      | none => copyZ P H tys c1 c2
theorem copyX_run (hs : ∀ j ob, Hr j = some ob → H j = some ob) (hm : Mem w0 S R0 D H F r w) {nx : Nat} {tys : Array TypeId} {c1 c2 : Cell} {eff : Eff}
    (h : copyX P Hr tys.toList c1 c2 = some eff) {u1 u2 : Value} (hu1 : c1.rep F r u1) (hu2 : c2.rep F r u2) (ty : TypeId) :
    ∃ v w', (Builtin.copy_ tys ty #[u1, u2]).run P w = .ok v w' ∧ After w0 S R0 D H F r nx eff F r w' v := by
  unfold copyX at h
  split at h
  · rename_i e he
    injection h with h; subst h
    exact copyC_run hs hm he hu1 hu2 ty
  · split at h
    · rename_i e he
      injection h with h; subst h
      exact copyD_run hs hm he hu1 hu2 ty
    · split at h
      · rename_i e he
        injection h with h; subst h
        exact copyU_run hs hm he hu1 hu2 ty
      · exact copyZ_run hs hm h hu1 hu2 ty
def repC : Nat → List Cell → List Cell
  | 0, _ => []
  | n + 1, z => z ++ repC n z
theorem repC_len : ∀ (n : Nat) (z : List Cell), (repC n z).length = n * z.length
  | 0, _ => by simp [repC]
  | n + 1, z => by simp only [repC, List.length_append, repC_len n z, Nat.add_mul]; omega
theorem repC_rep {F : Frag} {r : Loc} {z : List Cell} {vs : List Value} (h : cellsRep F r z vs) : ∀ n, cellsRep F r (repC n z) (List.replicate n vs).flatten
  | 0 => trivial
  | n + 1 => by
    rw [List.replicate_succ, List.flatten_cons]
    exact cellsRep_append h (repC_rep h n)
theorem repC_mem : ∀ {n : Nat} {z : List Cell} {c : Cell}, c ∈ repC n z → c ∈ z
  | 0, _, _, h => by cases h
  | n + 1, z, c, h => by
    simp only [repC, List.mem_append] at h
    rcases h with h | h
    · exact h
    · exact repC_mem h
theorem undef_rep' (F : Frag) (r : Loc) : (AV.t []).rep F r (.tuple #[]) := ⟨[], trivial, rfl⟩
def clrC (P : Program) (H : Hf) (tys : List TypeId) (c : Cell) : Option Eff := match tys with
  | [t] => match P.underlying t with
    | some (.slice e) => match P.info? e, c with
      | some i, .s j off sz n cap => match H j, i.zero with
        | some (.lit l), some z => bif Nat.beq sz i.size && (Nat.beq z.cells.size i.size && (Nat.blt 0 i.size && (Nat.blt 0 n && (okAll (kCells z.cells.toList) && Nat.ble (off + n * sz) l.length)))) then
            some ⟨some (.t []), [(j, .lit (putR l off (repC n (kCells z.cells.toList))))], 0⟩ else none
        | _, _ => none
      | _, _ => none
    | _ => none
  | _ => none
theorem zeroCells_list {z : Array Value} (hz : 0 < z.size) (n : Nat) : (Builtin.zeroCells z n).toList = (List.replicate n z.toList).flatten := by
  apply List.ext_getElem?
  intro i
  by_cases hi : i < n * z.size
  · rw [flatten_get (by simpa using hz) n i (by simpa using hi)]
    have hm : i % z.size < z.size := Nat.mod_lt _ hz
    simp [Builtin.zeroCells, hi, hm]
  · rw [List.getElem?_eq_none (by simp [Builtin.zeroCells]; omega), List.getElem?_eq_none (by simp; omega)]
theorem clrC_run (hs : ∀ j ob, Hr j = some ob → H j = some ob) (hm : Mem w0 S R0 D H F r w) {nx : Nat} {tys : Array TypeId} {c : Cell} {eff : Eff}
    (h : clrC P Hr tys.toList c = some eff) {u : Value} (hu : c.rep F r u) (ty : TypeId) :
    ∃ v w', (Builtin.clear_ tys ty #[u]).run P w = .ok v w' ∧ After w0 S R0 D H F r nx eff F r w' v := by
  unfold clrC at h
  split at h
  · rename_i t hty
    have hty' : tys = #[t] := by apply Array.ext'; rw [hty]
    subst hty'
    split at h
    · rename_i e ht
      split at h
      · rename_i _ i j off sz n cap hi
        split at h
        · rename_i l z hj hz
          cases hb : (Nat.beq sz i.size && (Nat.beq z.cells.size i.size && (Nat.blt 0 i.size && (Nat.blt 0 n && (okAll (kCells z.cells.toList) && Nat.ble (off + n * sz) l.length))))) with
          | false => rw [hb] at h; cases h
          | true =>
            rw [hb] at h
            simp only [cond_true, Option.some.injEq] at h; subst h
            simp only [Bool.and_eq_true] at hb
            obtain ⟨b1, b2, b3, b4, b5, b6⟩ := hb
            have hsz := Nat.eq_of_beq_eq_true b1
            have hzs := Nat.eq_of_beq_eq_true b2
            have hpos : 0 < i.size := Nat.le_of_ble_eq_true b3
            have hn : 0 < n := Nat.le_of_ble_eq_true b4
            have hfit : off + n * sz ≤ l.length := Nat.le_of_ble_eq_true b6
            have hj' := hs _ _ hj
            obtain ⟨ws, g1, g2, g3, g4⟩ := hm.obs j _ hj'
            have hk := kCells_rep F r z.cells.toList
            have hone := okAll_one b5 hk
            have hrr := repC_rep hk n
            have hzl := zeroCells_list (z := z.cells) (by omega) n
            have hlen : ((List.replicate n z.cells.toList).flatten).length = n * sz := by simp [hzs, hsz]
            have hones : ∀ v ∈ (List.replicate n z.cells.toList).flatten, v.oneCell' = true := fun v hv => by
              obtain ⟨l', hl', hv⟩ := List.mem_flatten.1 hv
              obtain ⟨_, rfl⟩ := List.mem_replicate.1 hl'
              exact hone v hv
            have hth : w.there (r j).b ((r j).o + off) ((List.replicate n z.cells.toList).flatten).length := fun q hq => by
              have := g3 (off + q) (by omega)
              rw [← Nat.add_assoc] at this; exact this
            rw [show u = _ from hu]
            refine ⟨.tuple #[], _, ?_, after_same rfl (hm.setLit hj' (putR_length (by rw [repC_len, ← cellsRep_length hk]; simp [hzs]; rw [← hsz]; exact hfit)) (fun c hc => ?_) hones (by omega) (fun vs' hv' => putR_rep hv' hrr)) (fun av hav => ?_)⟩
            · have hzv : (zeroValue e).run P w = .ok z w := by simp [zeroValue, run_typeInfo _ hi, hz]
              have hst := run_storeCells_cells (P := P) (r j).b ((r j).o + off) (List.replicate n z.cells.toList).flatten 0 w (fun q hq => by simpa using (hth q hq).1) (fun q hq => by simpa using (hth q hq).2) hones
              simp only [Nat.add_zero] at hst
              obtain ⟨m, rfl⟩ : ∃ m, n = m + 1 := ⟨n - 1, by omega⟩
              simp only [Builtin.clear_, List.getElem?_toArray, List.getElem?_cons_zero, Sem.run_bind, run_underlying ht, Result.andThen_ok, hzv, hzl, hst, Sem.run_pure]
            · rcases putR_mem hc with hc | hc
              · exact hm.scp j _ hj' c hc
              · exact kCells_inn D _ c (repC_mem hc)
            · injection hav with hav; subst hav
              exact ⟨undef_rep' F r, fun x hx => by cases hx⟩
        · cases h
      · cases h
    · cases h
  · cases h
/-! ### append(s, make([]T, n)...) onto a nil slice -/
theorem wrap64a {n : Int} (h0 : -9223372036854775808 ≤ n) (h1 : n ≤ 9223372036854775807) : IntKind.i64.wrap n = n := by
  rw [IntKind.wrap_i64]; omega
theorem i64wrap {n : Nat} (h : n ≤ 9223372036854775807) : IntKind.i64.wrap (n : Int) = n := wrap64a (by omega) (by omega)
theorem append_grow_make (t1 t2 ty e : TypeId) (i : TypeInfo) (z : Value) (k2 kk : IntKind) (ht : P.underlying t1 = some (.slice e)) (hi : P.info? e = some i) (hz : i.zero = some z) (ht2 : P.underlying t2 = some (.int k2))
    (w : World) (k : Nat) (h0 : 0 < k) (h63 : k ≤ maxLen) (hb : k * i.bytes ≤ 140737488355328) (hsz : 0 < i.size) :
    (Builtin.append_ #[t1, t2] ty #[.slice none 0 0, .int kk k]).run P w = .ok (.slice (some ⟨w.heap.size, 0, none⟩) k (grownCap w k 0 e))
      (w.drew.alloc (.cells (Builtin.zeroCells z.cells k ++ Builtin.zeroCells z.cells (grownCap w k 0 e - k)) e)) := by
  have h63' : k ≤ 9223372036854775807 := Nat.le_trans h63 (by decide)
  have hw := i64wrap h63'
  have hneg : ¬ ((k : Int) < 0) := by omega
  have hb' : ¬ (281474976710656 < (k : Int) * (i.bytes : Int)) := by
    have : ((k * i.bytes : Nat) : Int) ≤ ((140737488355328 : Nat) : Int) := Int.ofNat_le.2 hb
    rw [Int.natCast_mul] at this; omega
  have hn : ¬ (k ≤ 0) := by omega
  have hks : ¬ (k * i.size = 0) := by
    intro h
    rcases Nat.mul_eq_zero.1 h with h | h <;> omega
  have h6 : ¬ (9223372036854775807 < (k : Int)) := by omega
  have hfit := growslice_fits (show 0 < k from h0) hb
  have h48 : ¬ (281474976710656 < Builtin.nextslicecap k 0 * i.bytes) := by omega
  have hk0 : k ≠ 0 := by omega
  have hi0 : i.size ≠ 0 := by omega
  simp [Builtin.append_, run_underlying ht, run_underlying ht2, sizeOf, typeInfo, zeroValue, hi, hz, asInt, asIntOf, hw, hneg, hb', hn, hks, h6, h48, Question.forced, Builtin.firstCells, newRow, grownCap, hk0, hi0]
def appendM (P : Program) (nx : Nat) (tys : List TypeId) (c1 c2 : Cell) : Option (Tree Eff) := match tys with
  | [t1, t2] => match P.underlying t1, P.underlying t2, c1, c2 with
    | some (.slice e), some (.int _), .v (.slice none 0 0), .v (.int _ (.ofNat k)) => match P.info? e with
      | some i => match i.zero with
        | some z => bif litElem P e && (Nat.beq z.cells.size i.size && (Nat.blt 0 i.size && (Nat.blt 0 k && (Nat.ble k 1000000 && (okAll (kCells z.cells.toList) && bytesOk k i.bytes))))) then
            some (.ret ⟨some (AV.c (.h nx)), [(nx, .lr i.size k (repC k (kCells z.cells.toList)))], 1⟩) else none
        | none => none
      | none => none
    | _, _, _, _ => none
  | _ => none
theorem appendM_run (hm : Mem w0 S R0 D H F r w) {nx : Nat} {eff : Eff} (hnx : ∀ j, nx ≤ j → j < nx + eff.nn → ¬ D j) {tys : Array TypeId} {c1 c2 : Cell} {tr : Tree Eff}
    (ht : appendM P nx tys.toList c1 c2 = some tr) (h : tr.run = some eff) {u1 u2 : Value} (hu1 : c1.rep F r u1) (hu2 : c2.rep F r u2) (ty : TypeId) :
    ∃ v w' r', (Builtin.append_ tys ty #[u1, u2]).run P w = .ok v w' ∧ After w0 S R0 D H F r nx eff F r' w' v := by
  unfold appendM at ht
  split at ht
  · rename_i t1 t2 hty
    have hty' : tys = #[t1, t2] := by apply Array.ext'; rw [hty]
    subst hty'
    split at ht
    · rename_i e k2 kk k ht1 ht2
      split at ht
      · rename_i i hi
        split at ht
        · rename_i z hz
          cases hb : (litElem P e && (Nat.beq z.cells.size i.size && (Nat.blt 0 i.size && (Nat.blt 0 k && (Nat.ble k 1000000 && (okAll (kCells z.cells.toList) && bytesOk k i.bytes)))))) with
          | false => rw [hb] at ht; cases ht
          | true =>
            rw [hb] at ht
            simp only [cond_true, Option.some.injEq] at ht; subst ht
            simp only [Tree.run, Option.some.injEq] at h; subst h
            simp only [Bool.and_eq_true] at hb
            obtain ⟨_, b2, b3, b4, b5, b6, b7⟩ := hb
            have hzs := Nat.eq_of_beq_eq_true b2
            have hpos : 0 < i.size := Nat.le_of_ble_eq_true b3
            have hk0 : 0 < k := Nat.le_of_ble_eq_true b4
            have hk1 : k ≤ 1000000 := Nat.le_of_ble_eq_true b5
            have hbytes : k * i.bytes ≤ 140737488355328 := Nat.le_of_ble_eq_true b7
            have h63 : k ≤ maxLen := Nat.le_trans hk1 (by decide)
            have hk := kCells_rep F r z.cells.toList
            have hone := okAll_one b6 hk
            have hrep := repC_rep hk k
            have hzl := zeroCells_list (z := z.cells) (by omega) k
            have hlen2 : ((List.replicate k z.cells.toList).flatten).length = k * i.size := by simp [hzs]
            have hall : ∀ v ∈ (List.replicate k z.cells.toList).flatten, v.oneCell' = true := fun v hv => by
              obtain ⟨l', hl', hv⟩ := List.mem_flatten.1 hv
              obtain ⟨_, rfl⟩ := List.mem_replicate.1 hl'
              exact hone v hv
            have hnn := hnx nx (Nat.le_refl _) (Nat.lt_succ_self _)
            have hrun := append_grow_make t1 t2 ty e i z k2 kk ht1 hi hz ht2 w k hk0 h63 hbytes hpos
            have hge := grownCap_ge w k 0 e
            have hcm := grownCap_le_maxLen w k 0 e h63
            generalize grownCap w k 0 e = gc at hrun hge hcm
            rw [show u1 = _ from hu1, show u2 = _ from hu2]
            refine ⟨_, _, _, hrun, locPut_agree r hnn _, Frag.le_refl F, (hm.newLr hnn (js := []) (fun _ h => by cases h) (fun c hc => kCells_inn D _ c (repC_mem hc)) hrep hall hlen2 (rest := (Builtin.zeroCells z.cells (gc - k)).toList) (by simp [hzl]) ?_ hge hcm (w1 := w.drew) rfl ((Below.refl _ _).drew) e).monoD (fun j => More_one), fun av hav => ?_⟩
            · simp only [Array.size_append, size_zeroCells, hzs]
              rw [← Nat.add_mul]
              congr 1
              omega
            · injection hav with hav; subst hav
              exact ⟨⟨by rw [locPut_self], rfl⟩, More_one (.inr rfl)⟩
        · cases ht
      · cases ht
    · cases ht
  · cases ht
def appendX (P : Program) (H : Hf) (nx : Nat) (tys : List TypeId) (c1 c2 : Cell) : Option (Tree Eff) := match appendC P H nx tys c1 c2 with
  | some t => some t
  | none => appendM P nx tys c1 c2
theorem appendX_run (hs : ∀ j ob, Hr j = some ob → H j = some ob) (hm : Mem w0 S R0 D H F r w) {nx : Nat} {eff : Eff} (hnx : ∀ j, nx ≤ j → j < nx + eff.nn → ¬ D j) {tys : Array TypeId} {c1 c2 : Cell} {tr : Tree Eff}
    (ht : appendX P Hr nx tys.toList c1 c2 = some tr) (h : tr.run = some eff) {u1 u2 : Value} (hu1 : c1.rep F r u1) (hu2 : c2.rep F r u2) (ty : TypeId) :
    ∃ v w' r', (Builtin.append_ tys ty #[u1, u2]).run P w = .ok v w' ∧ After w0 S R0 D H F r nx eff F r' w' v := by
  unfold appendX at ht
  split at ht
  · rename_i t h1
    injection ht with ht; subst ht
    exact appendC_run hs hm hnx h1 h hu1 hu2 ty
  · exact appendM_run hm hnx ht h hu1 hu2 ty
/-! ### Maps of whatever their keys and values are -/
def okKey : TypeDesc → Value → Bool
  | .bool, .bool _ => true
  | .int k, .int k' _ => decide (k' = k)
  | .string, .string _ => true
  | _, _ => false
theorem okKey_is {d : TypeDesc} {v : Value} (h : okKey d v = true) : Go.MapKept.IsKey d v := by
  unfold okKey at h
  split at h
  · trivial
  · have h' := of_decide_eq_true h; exact h'
  · trivial
  · cases h
def findC (d : TypeDesc) (k : Value) : List (Value × Part) → Nat → Option (Option (Nat × Part))
  | [], _ => some none
  | x :: m, i => match Instr.sameNow d k x.1 with
    | some true => some (some (i, x.2))
    | some false => findC d k m (i + 1)
    | none => none
theorem findC_rep {d : TypeDesc} {k : Value} : ∀ {m : List (Value × Part)} {es : List MapEntry} {i : Nat} {res : Option (Nat × Part)}, findC d k m i = some res → centries F r m es →
    (res = none ∧ Instr.findNow d k es i = some none) ∨ ∃ j q e x, res = some (i + j, q) ∧ m[j]? = some x ∧ x.2 = q ∧ es[j]? = some e ∧ Instr.findNow d k es i = some (some (i + j, e.val)) ∧ q.rep F r e.val ∧ Instr.sameNow d k e.key = some true
  | [], [], i, res, h, _ => by simp only [findC, Option.some.injEq] at h; subst h; exact .inl ⟨rfl, rfl⟩
  | [], _ :: _, _, _, _, h => h.elim
  | _ :: _, [], _, _, _, h => h.elim
  | x :: m, e :: es, i, res, h, hc => by
    simp only [findC] at h
    rw [← hc.1] at h
    split at h
    · rename_i hs
      injection h with h; subst h
      exact .inr ⟨0, x.2, e, x, rfl, rfl, rfl, rfl, by simp [Instr.findNow, hs], hc.2.1, hs⟩
    · rename_i hs
      rcases findC_rep h hc.2.2 with ⟨h1, h2⟩ | ⟨j, q, e', x', h1, h2, h3, h4, h5, h6, h7⟩
      · exact .inl ⟨h1, by simp [Instr.findNow, hs, h2]⟩
      · exact .inr ⟨j + 1, q, e', x', by rw [h1]; congr 2; omega, by simpa using h2, h3, by simpa using h4, by simp [Instr.findNow, hs, h5]; omega, h6, h7⟩
    · cases h
theorem centries_push {F : Frag} {r : Loc} : ∀ {m : List (Value × Part)} {es : List MapEntry} {k : Value} {q : Part} {e : MapEntry}, centries F r m es → e.key = k → q.rep F r e.val → centries F r (m ++ [(k, q)]) (es ++ [e])
  | [], [], k, q, e, _, h1, h2 => ⟨h1, h2, trivial⟩
  | [], _ :: _, _, _, _, h, _, _ => h.elim
  | _ :: _, [], _, _, _, h, _, _ => h.elim
  | x :: m, e0 :: es, k, q, e, h, h1, h2 => ⟨h.1, h.2.1, centries_push h.2.2 h1 h2⟩
theorem centries_set {F : Frag} {r : Loc} : ∀ {m : List (Value × Part)} {es : List MapEntry} {j : Nat} {k : Value} {q : Part} {e : MapEntry}, centries F r m es → e.key = k → q.rep F r e.val → centries F r (m.set j (k, q)) (es.set j e)
  | [], [], j, k, q, e, h, _, _ => by cases j <;> exact trivial
  | [], _ :: _, _, _, _, _, h, _, _ => h.elim
  | _ :: _, [], _, _, _, _, h, _, _ => h.elim
  | x :: m, e0 :: es, 0, k, q, e, h, h1, h2 => ⟨h1, h2, h.2.2⟩
  | x :: m, e0 :: es, j + 1, k, q, e, h, h1, h2 => ⟨h.1, h.2.1, centries_set h.2.2 h1 h2⟩
theorem centries_erase {F : Frag} {r : Loc} : ∀ {m : List (Value × Part)} {es : List MapEntry} {j : Nat}, centries F r m es → centries F r (m.eraseIdx j) (es.eraseIdx j)
  | [], [], j, h => by cases j <;> exact trivial
  | [], _ :: _, _, h => h.elim
  | _ :: _, [], _, h => h.elim
  | x :: m, e0 :: es, 0, h => h.2.2
  | x :: m, e0 :: es, j + 1, h => ⟨h.1, h.2.1, centries_erase h.2.2⟩
theorem Mem.setCm (h : Mem w0 S R0 D H F r w) {j : Nat} {m m' : List (Value × Part)} (hj : H j = some (.cm m)) {es es' : Array MapEntry} {clock c' : Nat} (hb : w.heap[(r j).b]? = some (.map es clock)) (hin : ∀ x ∈ m', x.2.inn D)
    (he : centries F r m' es'.toList) (hp : es'.toList.Pairwise (fun x y => x.born < y.born)) (hc : ∀ e ∈ es'.toList, e.born < c') :
    Mem w0 S R0 D (updH [(j, .cm m')] H) F r { w with heap := w.heap.setIfInBounds (r j).b (.map es' c') } := by
  obtain ⟨h0, _⟩ := h.obs j _ hj
  have hlt := (Array.getElem?_eq_some_iff.1 hb).1
  refine h.renew hj ⟨h0, es', c', ?_, he, hp, hc⟩ hin (fun b o hfo => hfo) (Fr.setMap hb es' c')
  simp [hlt]
theorem Mem.newCm (h : Mem w0 S R0 D H F r w) {nx : Nat} (hnx : ¬ D nx) {m : List (Value × Part)} (hin : ∀ x ∈ m, x.2.inn D) {es : Array MapEntry} {clock : Nat} (he : centries F r m es.toList) (hp : es.toList.Pairwise (fun x y => x.born < y.born)) (hc : ∀ e ∈ es.toList, e.born < clock) :
    Mem w0 S R0 (fun j => D j ∨ j = nx) (updH [(nx, .cm m)] H) F (locPut r nx ⟨w.heap.size, 0, .map (some w.heap.size)⟩) (w.alloc (.map es clock)) := by
  have hB : Below w.heap.size w (w.alloc (.map es clock)) := (Below.refl _ _).alloc (Nat.le_refl _) _
  have ha := locPut_agree r hnx ⟨w.heap.size, 0, .map (some w.heap.size)⟩
  refine h.fresh' hnx (js := []) (fun j hj => by cases hj) (d := ⟨w.heap.size, 0, .map (some w.heap.size)⟩) (ob := .cm m) ⟨rfl, es, clock, (Go.MapKept.heap_alloc w _).1, centries_to (Frag.le_refl F) ha hin he, hp, hc⟩ (fun x hx => Part.inn_mono (fun _ h => .inl h) (hin x hx)) (fun b o hfo => .inr ?_) (Fr.of_below hB _)
  have : b = w.heap.size := hfo
  omega
def mapD (P : Program) (t : TypeId) : Option (TypeDesc × TypeId) := match P.underlying t with
  | some (.map k e) => match P.underlying k with
    | some d => some (d, e)
    | none => none
  | _ => none
theorem mapD_spec {P : Program} {t : TypeId} {d : TypeDesc} {e : TypeId} (h : mapD P t = some (d, e)) : ∃ k, P.underlying t = some (.map k e) ∧ P.underlying k = some d := by
  unfold mapD at h
  split at h
  · rename_i k e' hut
    split at h
    · rename_i d' hk
      simp only [Option.some.injEq, Prod.mk.injEq] at h
      obtain ⟨rfl, rfl⟩ := h
      exact ⟨k, hut, hk⟩
    · cases h
  · cases h
def putC (P : Program) (H : Hf) (t : TypeId) (m k : Cell) (q : Part) : Option (List (Nat × Ob)) := match m, k.toV with
  | .h j, some kv => match H j, mapD P t with
    | some (.cm es), some (d, _) => bif okKey d kv then match findC d kv es 0 with
        | some none => some [(j, .cm (es ++ [(kv, q)]))]
        | some (some (i, _)) => some [(j, .cm (es.set i (kv, q)))]
        | none => none
      else none
    | _, _ => none
  | _, _ => none
theorem putC_run (hs : ∀ j ob, Hr j = some ob → H j = some ob) (hm : Mem w0 S R0 D H F r w) {t : TypeId} {m k : Cell} {q : Part} {ups : List (Nat × Ob)} (h : putC P Hr t m k q = some ups) {um uk uv : Value} (hum : m.rep F r um) (huk : k.rep F r uk) (huv : q.rep F r uv) (hq : q.inn D) :
    ∃ w', (Instr.mapUpdate t um uk uv).run P w = .ok () w' ∧ Mem w0 S R0 D (updH ups H) F r w' := by
  unfold putC at h
  split at h
  · rename_i j kv hkv
    split at h
    · rename_i es0 d e hj hd
      cases hb : okKey d kv with
      | false => rw [hb] at h; cases h
      | true =>
        rw [hb] at h
        simp only [cond_true] at h
        obtain ⟨kt, hut, hkd⟩ := mapD_spec hd
        have hj' := hs _ _ hj
        obtain ⟨h0, es, clock, h1, h2, h3, h4⟩ := hm.obs j _ hj'
        have hin := hm.scp j _ hj'
        have hk := okKey_is hb
        have hku := Cell.rep_toV hkv huk
        subst hku
        rw [hum.1, h0]
        split at h
        · rename_i hf
          injection h with h; subst h
          rcases findC_rep hf h2 with ⟨_, g2⟩ | ⟨j', q', e', x', g1, _⟩
          · refine ⟨_, ?_, hm.setCm hj' h1 (es' := es.push { key := uk, val := uv, born := clock }) (c' := clock + 1) (fun x hx => ?_) (by rw [Array.toList_push]; exact centries_push h2 rfl huv) (by rw [Array.toList_push]; exact pairwise_push h3 h4) (fun e he' => ?_)⟩
            · simp only [Instr.mapUpdate, Sem.run_bind, run_underlying hut, Result.andThen_ok, Go.MapKept.run_getObj_map h1, Go.MapKept.run_checkKey hkd hk, Go.MapKept.run_findKey hkd g2, Go.MapKept.run_setObj_map _ h1]
            · rcases List.mem_append.1 hx with hx | hx
              · exact hin x hx
              · rcases List.mem_singleton.1 hx with rfl; exact hq
            · rw [Array.toList_push] at he'
              rcases List.mem_append.1 he' with h | h
              · exact Nat.lt_succ_of_lt (h4 e h)
              · simp at h; subst h; exact Nat.lt_succ_self _
          · cases g1
        · rename_i i q0 hf
          injection h with h; subst h
          rcases findC_rep hf h2 with ⟨g1, _⟩ | ⟨j', q', e', x', g1, g2, g3, g4, g5, g6, g7⟩
          · cases g1
          · simp only [Nat.zero_add, Option.some.injEq, Prod.mk.injEq] at g1 g5
            obtain ⟨rfl, rfl⟩ := g1
            have hkey : e'.key = uk := by
              have hke : Go.MapKept.IsKey d e'.key := by
                cases d <;> cases uk <;> simp_all [Instr.sameNow, okKey] <;> (cases hek : e'.key <;> simp_all [Instr.sameNow, Go.MapKept.IsKey])
              obtain ⟨rr, hr, hiff⟩ := Go.MapKept.sameNow_of_keys hk hke
              rw [g7] at hr
              injection hr with hr; subst hr
              exact (hiff.1 rfl).symm
            have h2' : es[i]? = some e' := by rw [← Array.getElem?_toList]; exact g4
            refine ⟨_, ?_, hm.setCm hj' h1 (es' := es.modify i fun e => { e with key := uk, val := uv }) (c' := clock) (fun x hx => ?_) (by rw [modify_list g4]; exact centries_set h2 rfl huv) (by rw [modify_list g4]; exact pairwise_set (g := fun (x : MapEntry) => x.born) (e' := { e' with key := uk, val := uv }) (fun _ _ => Iff.rfl) h3 g4 rfl) (fun e he' => ?_)⟩
            · simp only [Instr.mapUpdate, Sem.run_bind, run_underlying hut, Result.andThen_ok, Go.MapKept.run_getObj_map h1, Go.MapKept.run_checkKey hkd hk, Go.MapKept.run_findKey hkd g5, h2', Option.map_some, Option.getD_some, hkey, Go.MapKept.run_keyThatStays hk, Go.MapKept.run_setObj_map _ h1]
            · rcases List.mem_or_eq_of_mem_set hx with hx | rfl
              · exact hin x hx
              · exact hq
            · rw [modify_list g4] at he'
              rcases List.mem_or_eq_of_mem_set he' with h | h
              · exact h4 e h
              · rw [h]; exact h4 e' (List.mem_of_getElem? g4)
        · cases h
    · cases h
  · cases h
def lookC (P : Program) (H : Hf) (t : TypeId) (m k : Cell) (ok : Bool) : Option AV := match m, k.toV with
  | .h j, some kv => match H j, mapD P t with
    | some (.cm es), some (d, e) => bif okKey d kv then match findC d kv es 0 with
        | some none => match pureSem P (zeroValue e) with
          | some z => some (bif ok then .t [ofK1 z, .one (.v (.bool false))] else .p (ofK1 z))
          | none => none
        | some (some (_, q)) => some (bif ok then .t [q, .one (.v (.bool true))] else .p q)
        | none => none
      else none
    | _, _ => none
  | _, _ => none
theorem lookC_run (hs : ∀ j ob, Hr j = some ob → H j = some ob) (hm : Mem w0 S R0 D H F r w) {t : TypeId} {m k : Cell} {ok : Bool} {av : AV} (h : lookC P Hr t m k ok = some av) {um uk : Value} (hum : m.rep F r um) (huk : k.rep F r uk) :
    ∃ v, (Instr.lookup t um uk ok).run P w = .ok v w ∧ av.rep F r v ∧ av.inn D := by
  unfold lookC at h
  split at h
  · rename_i j kv hkv
    split at h
    · rename_i es0 d e hj hd
      cases hb : okKey d kv with
      | false => rw [hb] at h; cases h
      | true =>
        rw [hb] at h
        simp only [cond_true] at h
        obtain ⟨kt, hut, hkd⟩ := mapD_spec hd
        have hj' := hs _ _ hj
        obtain ⟨h0, es, clock, h1, h2, h3, h4⟩ := hm.obs j _ hj'
        have hin := hm.scp j _ hj'
        have hk := okKey_is hb
        have hku := Cell.rep_toV hkv huk
        subst hku
        rw [hum.1, h0]
        split at h
        · rename_i hf
          rcases findC_rep hf h2 with ⟨_, g2⟩ | ⟨j', q', e', x', g1, _⟩
          · split at h
            · rename_i z hz
              injection h with h; subst h
              cases ok with
              | false =>
                refine ⟨z, ?_, ofK1_rep F r z, ofK1_inn D z⟩
                simp only [Instr.lookup, Sem.run_bind, run_underlying hut, Result.andThen_ok, Go.MapKept.run_getObj_map h1, Go.MapKept.run_checkKey hkd hk, Go.MapKept.run_findKey hkd g2, Sem.run_pure, pureSem_run hz]
                rfl
              | true =>
                refine ⟨.tuple #[z, .bool false], ?_, ⟨[z, .bool false], ⟨ofK1_rep F r z, rfl, trivial⟩, rfl⟩, fun x hx => ?_⟩
                · simp only [Instr.lookup, Sem.run_bind, run_underlying hut, Result.andThen_ok, Go.MapKept.run_getObj_map h1, Go.MapKept.run_checkKey hkd hk, Go.MapKept.run_findKey hkd g2, Sem.run_pure, pureSem_run hz]
                  rfl
                · simp only [List.mem_cons, List.not_mem_nil, or_false, cond_true] at hx
                  rcases hx with rfl | rfl
                  · exact ofK1_inn D z
                  · trivial
            · cases h
          · cases g1
        · rename_i i q0 hf
          injection h with h; subst h
          rcases findC_rep hf h2 with ⟨g1, _⟩ | ⟨j', q', e', x', g1, g2, g3, g4, g5, g6, g7⟩
          · cases g1
          · simp only [Nat.zero_add, Option.some.injEq, Prod.mk.injEq] at g1 g5
            obtain ⟨rfl, rfl⟩ := g1
            have hqi : q0.inn D := by rw [← g3]; exact hin x' (List.mem_of_getElem? g2)
            cases ok with
            | false =>
              refine ⟨e'.val, ?_, g6, hqi⟩
              simp only [Instr.lookup, Sem.run_bind, run_underlying hut, Result.andThen_ok, Go.MapKept.run_getObj_map h1, Go.MapKept.run_checkKey hkd hk, Go.MapKept.run_findKey hkd g5, Sem.run_pure]
              rfl
            | true =>
              refine ⟨.tuple #[e'.val, .bool true], ?_, ⟨[e'.val, .bool true], ⟨g6, rfl, trivial⟩, rfl⟩, fun x hx => ?_⟩
              · simp only [Instr.lookup, Sem.run_bind, run_underlying hut, Result.andThen_ok, Go.MapKept.run_getObj_map h1, Go.MapKept.run_checkKey hkd hk, Go.MapKept.run_findKey hkd g5, Sem.run_pure]
                rfl
              · simp only [List.mem_cons, List.not_mem_nil, or_false, cond_true] at hx
                rcases hx with rfl | rfl
                · exact hqi
                · trivial
        · cases h
    · cases h
  · cases h
/-! ### A map's first key, of more than one cell -/
def valsC : List Cell → Option (List Value)
  | [] => some []
  | .v x :: l => match valsC l with
    | some r => some (x :: r)
    | none => none
  | _ => none
theorem valsC_rep {F : Frag} {r : Loc} : ∀ {l : List Cell} {vs us : List Value}, valsC l = some vs → cellsRep F r l us → us = vs
  | [], vs, [], h, _ => by simp only [valsC, Option.some.injEq] at h; exact h
  | [], _, _ :: _, _, h => h.elim
  | _ :: _, _, [], _, h => h.elim
  | c :: l, vs, u :: us, h, hr => by
    unfold valsC at h
    split at h
    · rename_i heq; cases heq
    · rename_i x l' heq
      injection heq with h1 h2
      subst h1; subst h2
      split at h
      · rename_i r' hr'
        injection h with h; subst h
        rw [valsC_rep hr' hr.2, show u = x from hr.1]
      · cases h
    · cases h
def mapK (P : Program) (t : TypeId) : Option (TypeId × TypeDesc × TypeId) := match P.underlying t with
  | some (.map k e) => match P.underlying k with
    | some d => some (k, d, e)
    | none => none
  | _ => none
theorem mapK_spec {P : Program} {t k : TypeId} {d : TypeDesc} {e : TypeId} (h : mapK P t = some (k, d, e)) : P.underlying t = some (.map k e) ∧ P.underlying k = some d := by
  unfold mapK at h
  split at h
  · rename_i k' e' hut
    split at h
    · rename_i d' hk
      simp only [Option.some.injEq, Prod.mk.injEq] at h
      obtain ⟨rfl, rfl, rfl⟩ := h
      exact ⟨hut, hk⟩
    · cases h
  · cases h
def keyMk (P : Program) (H : Hf) (t : TypeId) (m : Cell) (l : List Cell) : Option (Nat × List Value × TypeId) := match m, valsC l with
  | .h j, some vs => match H j, mapK P t with
    | some (.cm []), some (kt, _, e) => match pureSem P (Instr.checkKey true 10000 kt (.agg vs.toArray)), pureSem P (Instr.checkKey false 10000 kt (.agg vs.toArray)) with
      | some _, some _ => some (j, vs, e)
      | _, _ => none
    | _, _ => none
  | _, _ => none
def putMk (P : Program) (H : Hf) (t : TypeId) (m : Cell) (l : List Cell) (q : Part) : Option (List (Nat × Ob)) := match keyMk P H t m l with
  | some (j, vs, _) => some [(j, .cm [(.agg vs.toArray, q)])]
  | none => none
def lookMk (P : Program) (H : Hf) (t : TypeId) (m : Cell) (l : List Cell) (ok : Bool) : Option AV := match keyMk P H t m l with
  | some (_, _, e) => match pureSem P (zeroValue e) with
    | some z => some (bif ok then .t [ofK1 z, .one (.v (.bool false))] else .p (ofK1 z))
    | none => none
  | none => none
theorem keyMk_run (hs : ∀ j ob, Hr j = some ob → H j = some ob) (hm : Mem w0 S R0 D H F r w) {t : TypeId} {m : Cell} {l : List Cell} {j : Nat} {vs : List Value} {e : TypeId} (h : keyMk P Hr t m l = some (j, vs, e)) {um uk : Value} (hum : m.rep F r um) (huk : (Part.many l).rep F r uk) :
    ∃ kt d clock, H j = some (.cm []) ∧ um = .map (some (r j).b) ∧ uk = .agg vs.toArray ∧ w.heap[(r j).b]? = some (.map #[] clock) ∧ P.underlying t = some (.map kt e) ∧ P.underlying kt = some d ∧ (Instr.checkKey true 10000 kt uk).run P w = .ok () w ∧ (Instr.checkKey false 10000 kt uk).run P w = .ok () w := by
  unfold keyMk at h
  split at h
  · rename_i j' vs' hvs
    split at h
    · rename_i kt d e' hj hd
      split at h
      · rename_i u u' hck hck2
        simp only [Option.some.injEq, Prod.mk.injEq] at h
        obtain ⟨rfl, rfl, rfl⟩ := h
        obtain ⟨hut, hkd⟩ := mapK_spec hd
        have hj' := hs _ _ hj
        obtain ⟨h0, es, clock, h1, h2, h3, h4⟩ := hm.obs _ _ hj'
        have hes : es = #[] := by
          cases hl : es.toList with
          | nil => exact Array.ext' hl
          | cons x y => rw [hl] at h2; exact h2.elim
        subst hes
        obtain ⟨us, g1, g2⟩ := huk
        rw [valsC_rep hvs g1] at g2
        exact ⟨kt, d, clock, hj', by rw [hum.1, h0], g2, h1, hut, hkd, by rw [g2]; exact pureSem_run hck w, by rw [g2]; exact pureSem_run hck2 w⟩
      · cases h
    · cases h
  · cases h
theorem putMk_run (hs : ∀ j ob, Hr j = some ob → H j = some ob) (hm : Mem w0 S R0 D H F r w) {t : TypeId} {m : Cell} {l : List Cell} {q : Part} {ups : List (Nat × Ob)} (h : putMk P Hr t m l q = some ups) {um uk uv : Value} (hum : m.rep F r um) (huk : (Part.many l).rep F r uk) (huv : q.rep F r uv) (hq : q.inn D) :
    ∃ w', (Instr.mapUpdate t um uk uv).run P w = .ok () w' ∧ Mem w0 S R0 D (updH ups H) F r w' := by
  unfold putMk at h
  split at h
  · rename_i j vs e hk
    injection h with h; subst h
    obtain ⟨kt, d, clock, hj, e1, e2, h1, hut, hkd, _, hck'⟩ := keyMk_run hs hm hk hum huk
    subst e1
    have hfk : (Instr.findKey kt uk (#[] : Array MapEntry).toList).run P w = .ok none w := Go.MapKept.run_findKey hkd rfl
    have hfk2 : (Instr.findKey kt uk []).run P w = .ok none w := Go.MapKept.run_findKey hkd rfl
    refine ⟨_, ?_, hm.setCm hj h1 (es' := (#[] : Array MapEntry).push { key := uk, val := uv, born := clock }) (c' := clock + 1) (fun x hx => ?_) ⟨e2, huv, trivial⟩ (by simp) (fun e he' => ?_)⟩
    · simp only [Instr.mapUpdate, Sem.run_bind, run_underlying hut, Result.andThen_ok, Go.MapKept.run_getObj_map h1, hck', hfk, hfk2, Go.MapKept.run_setObj_map _ h1]
    · rcases List.mem_singleton.1 hx with rfl; exact hq
    · simp at he'; subst he'; exact Nat.lt_succ_self _
  · cases h
theorem lookMk_run (hs : ∀ j ob, Hr j = some ob → H j = some ob) (hm : Mem w0 S R0 D H F r w) {t : TypeId} {m : Cell} {l : List Cell} {ok : Bool} {av : AV} (h : lookMk P Hr t m l ok = some av) {um uk : Value} (hum : m.rep F r um) (huk : (Part.many l).rep F r uk) :
    ∃ v, (Instr.lookup t um uk ok).run P w = .ok v w ∧ av.rep F r v ∧ av.inn D := by
  unfold lookMk at h
  split at h
  · rename_i j vs e hk
    obtain ⟨kt, d, clock, hj, e1, e2, h1, hut, hkd, hck, _⟩ := keyMk_run hs hm hk hum huk
    subst e1
    have hck' : (Instr.checkKey (#[] : Array MapEntry).isEmpty 10000 kt uk).run P w = .ok () w := hck
    have hfk : (Instr.findKey kt uk (#[] : Array MapEntry).toList).run P w = .ok none w := Go.MapKept.run_findKey hkd rfl
    split at h
    · rename_i z hz
      injection h with h; subst h
      cases ok with
      | false =>
        refine ⟨z, ?_, ofK1_rep F r z, ofK1_inn D z⟩
        simp only [Instr.lookup, Sem.run_bind, run_underlying hut, Result.andThen_ok, Go.MapKept.run_getObj_map h1, hck', hfk, Sem.run_pure, pureSem_run hz]
        rfl
      | true =>
        refine ⟨.tuple #[z, .bool false], ?_, ⟨[z, .bool false], ⟨ofK1_rep F r z, rfl, trivial⟩, rfl⟩, fun x hx => ?_⟩
        · simp only [Instr.lookup, Sem.run_bind, run_underlying hut, Result.andThen_ok, Go.MapKept.run_getObj_map h1, hck', hfk, Sem.run_pure, pureSem_run hz]
          rfl
        · simp only [List.mem_cons, List.not_mem_nil, or_false, cond_true] at hx
          rcases hx with rfl | rfl
          · exact ofK1_inn D z
          · trivial
    · cases h
  · cases h
def delC (P : Program) (H : Hf) (t : TypeId) (m k : Cell) : Option (List (Nat × Ob)) := match m, k.toV with
  | .h j, some kv => match H j, mapD P t with
    | some (.cm es), some (d, _) => bif okKey d kv then match findC d kv es 0 with
        | some none => some [(j, .cm es)]
        | some (some (i, _)) => some [(j, .cm (es.eraseIdx i))]
        | none => none
      else none
    | _, _ => none
  | _, _ => none
theorem delC_run (hs : ∀ j ob, Hr j = some ob → H j = some ob) (hm : Mem w0 S R0 D H F r w) {t : TypeId} {m k : Cell} {ups : List (Nat × Ob)} (h : delC P Hr t m k = some ups) {um uk : Value} (hum : m.rep F r um) (huk : k.rep F r uk) (t2 ty : TypeId) :
    ∃ w', (Builtin.delete_ #[t, t2] ty #[um, uk]).run P w = .ok (.tuple #[]) w' ∧ Mem w0 S R0 D (updH ups H) F r w' := by
  unfold delC at h
  split at h
  · rename_i j kv hkv
    split at h
    · rename_i es0 d e hj hd
      cases hb : okKey d kv with
      | false => rw [hb] at h; cases h
      | true =>
        rw [hb] at h
        simp only [cond_true] at h
        obtain ⟨kt, hut, hkd⟩ := mapD_spec hd
        have hj' := hs _ _ hj
        obtain ⟨h0, es, clock, h1, h2, h3, h4⟩ := hm.obs j _ hj'
        have hin := hm.scp j _ hj'
        have hk := okKey_is hb
        have hku := Cell.rep_toV hkv huk
        subst hku
        rw [hum.1, h0]
        split at h
        · rename_i hf
          injection h with h; subst h
          rcases findC_rep hf h2 with ⟨_, g2⟩ | ⟨j', q', e', x', g1, _⟩
          · refine ⟨_, ?_, hm.setCm hj' h1 (es' := es) (c' := clock) hin h2 h3 h4⟩
            simp [Builtin.delete_, Sem.run_bind, run_underlying hut, Result.andThen_ok, Go.MapKept.run_getObj_map h1, Go.MapKept.run_checkKey hkd hk, Go.MapKept.run_findKey hkd g2, Go.MapKept.run_setObj_map _ h1]
          · cases g1
        · rename_i i q0 hf
          injection h with h; subst h
          rcases findC_rep hf h2 with ⟨g1, _⟩ | ⟨j', q', e', x', g1, g2, g3, g4, g5, g6, g7⟩
          · cases g1
          · simp only [Nat.zero_add, Option.some.injEq, Prod.mk.injEq] at g1 g5
            obtain ⟨rfl, rfl⟩ := g1
            have hl : (es.eraseIdxIfInBounds i).toList = es.toList.eraseIdx i := by
              have : i < es.size := by have := (List.getElem?_eq_some_iff.1 g4).1; simpa using this
              rw [Array.eraseIdxIfInBounds, dif_pos this, Array.toList_eraseIdx]
            refine ⟨_, ?_, hm.setCm hj' h1 (es' := es.eraseIdxIfInBounds i) (c' := clock) (fun x hx => hin x ((List.eraseIdx_sublist _ _).subset hx)) (by rw [hl]; exact centries_erase h2) (by rw [hl]; exact h3.sublist (List.eraseIdx_sublist _ _)) (by rw [hl]; exact fun e he' => h4 e ((List.eraseIdx_sublist _ _).subset he'))⟩
            simp [Builtin.delete_, Sem.run_bind, run_underlying hut, Result.andThen_ok, Go.MapKept.run_getObj_map h1, Go.MapKept.run_checkKey hkd hk, Go.MapKept.run_findKey hkd g5, Go.MapKept.run_setObj_map _ h1]
        · cases h
    · cases h
  · cases h
/-! ### The operations -/
def oneT (av : AV) : Tree Eff := .ret ⟨some av, [], 0⟩
def mapNil (P : Program) (H : Hf) (op : BinOp) (t : TypeId) (j : Nat) : Option Bool := match H j, P.underlying t with
  | some (.cm _), some (.map _ _) => (match op with | .eql => some false | .neq => some true | _ => none)
  | _, _ => none
def nilOp (op : BinOp) : Option Bool := match op with
  | .eql => some false
  | .neq => some true
  | _ => none
def rowNil (P : Program) (H : Hf) (op : BinOp) (t : TypeId) (j : Nat) : Option Bool := match P.underlying t with
  | some (.slice _) => (match H j with
    | some (.row _ (_ :: _)) => nilOp op
    | some (.lr _ (_ + 1) _) => nilOp op
    | _ => none)
  | _ => none
theorem rowNil_run (hs : ∀ j ob, Hr j = some ob → H j = some ob) (hm : Mem w0 S R0 D H F r w) {op : BinOp} {t : TypeId} {j : Nat} {b : Bool} (h : rowNil P Hr op t j = some b) (x y : Operand) :
    (do eqGuard op t x y (r j).hv (.slice none 0 0); binOp op t (r j).hv (.slice none 0 0) : Sem Value).run P w = .ok (.bool b) w := by
  have fin : ∀ (a : Addr) (n c : Nat) (e : TypeId), P.underlying t = some (.slice e) → (r j).hv = .slice (some a) n c → nilOp op = some b →
      (do eqGuard op t x y (r j).hv (.slice none 0 0); binOp op t (r j).hv (.slice none 0 0) : Sem Value).run P w = .ok (.bool b) w := fun a n c e hu hv hb => by
    rw [hv]
    unfold nilOp at hb
    split at hb
    · injection hb with hb; subst hb
      rw [Sem.run_bind, show (eqGuard .eql t x y (.slice (some a) n c) (.slice none 0 0)).run P w = .ok () w from by simp [eqGuard], Result.andThen_ok]
      exact (run_slice_nil w a n c hu).1
    · injection hb with hb; subst hb
      rw [Sem.run_bind, show (eqGuard .neq t x y (.slice (some a) n c) (.slice none 0 0)).run P w = .ok () w from by simp [eqGuard], Result.andThen_ok]
      exact (run_slice_nil w a n c hu).2
    · cases hb
  unfold rowNil at h
  split at h
  · rename_i e hu
    split at h
    · rename_i ts x0 l hj
      have ho := hm.obs j _ (hs _ _ hj)
      rcases ho with ⟨_, h2⟩ | ⟨cap, h1, _⟩
      · cases h2
      · exact fin _ _ _ e hu h1 h
    · rename_i sz n l hj
      obtain ⟨vs, _, _, _, _, h5⟩ := lr_facts (hm.obs j _ (hs _ _ hj))
      rcases h5 with ⟨_, h2⟩ | ⟨cap, h1, _⟩
      · cases h2
      · exact fin _ _ _ e hu h1 h
    · cases h
  · cases h
/-! ### A string of bytes that are not known, made -/
theorem bytesToString_run2 {P : Program} {w : World} {src dst e : TypeId} (hs : P.underlying src = some (.slice e)) (he : P.underlying e = some (.int .u8)) (hd : P.underlying dst = some .string) {a : Option Addr} {n cap : Nat} {l : List (Tys.den bytesTs)} {vs : List Value}
    (hvs : vs = l.map fun x => .int .u8 (x.1.toNat : Int)) (hr : Reads P w 1 l.length (.slice a n cap) vs) : (convert src dst (.slice a n cap)).run P w = .ok (.string (strOf l)) w := by
  have hlen : n = l.length := by
    have := hr.1
    simp only [Builtin.lenOf] at this
    cases this; rfl
  subst hlen
  have hf := hr.full w rfl
  have hstr : ∀ (l : List (Tys.den bytesTs)) (s : ByteArray), (l.map fun x => (x.1.toNat : Int)).foldl (fun r n => r.push (UInt8.ofNat n.toNat)) s = ⟨s.data ++ (l.map fun x => UInt8.ofBitVec x.1).toArray⟩ := by
    intro l
    induction l with
    | nil => intro s; simp
    | cons x l ih =>
      intro s
      simp only [List.map_cons, List.foldl_cons]
      rw [ih]
      simp only [Int.toNat_natCast]
      have : UInt8.ofNat x.1.toNat = UInt8.ofBitVec x.1 := by
        apply UInt8.eq_of_toBitVec_eq
        apply BitVec.eq_of_toNat_eq
        have := x.1.isLt
        simp only [IntKind.bits] at this
        simp
        exact Nat.mod_eq_of_lt this
      rw [this]
      simp [ByteArray.push]
  cases a with
  | none =>
    have : l = [] := by
      have h2 := hr.2.2 l.length (Nat.le_refl _) w rfl
      rw [run_firstCells_none] at h2
      simp only [Result.ok.injEq, and_true] at h2
      have h3 : vs.take (l.length * 1) = [] := by
        have := congrArg Array.toList h2
        simpa using this.symm
      have h4 := congrArg List.length h3
      rw [List.length_take, hr.2.1] at h4
      exact List.length_eq_zero_iff.1 (by simpa using h4)
    subst this
    simp only [convert, Sem.run_bind, run_underlying hs, run_underlying hd, run_underlying he, Result.andThen_ok, Conv.bytesToString, Sem.run_pure]
    rfl
  | some a =>
    have hload : (loadCells a l.length).run P w = .ok ((l.map fun x => (x.1.toNat : Int)).map (Value.int .u8)).toArray w := by
      simp only [Builtin.firstCells, Nat.mul_one] at hf
      rw [hf, hvs, List.map_map]; rfl
    have := run_bytesToString (P := P) w a l.length cap _ hload
    simp only [convert, Sem.run_bind, run_underlying hs, run_underlying hd, run_underlying he, Result.andThen_ok, this]
    rw [hstr]
    have e0 : ByteArray.empty.data = #[] := rfl
    rw [e0]
    simp [strOf]
def convC (P : Program) (H : Hf) (src dst : TypeId) (c : Cell) : Option AV := match P.underlying src, P.underlying dst with
  | some (.slice e), some .string => bif isBytes P e then match baseC H 1 c with
      | some (cs, n, _) => match bytesC cs with
        | some l => bif Nat.beq l.length n then some (AV.c (bif hasYc cs then .y (markC cs 1) (.v (.string (strOf l))) else .v (.string (strOf l)))) else none
        | none => none
      | none => none
    else none
  | _, _ => none
section
variable {P : Program} {w0 : World} {S : Nat → Nat → Prop} {R0 : Frag} {D : Nat → Prop} {H Hr : Hf} {F : Frag} {r : Loc} {w : World}
theorem convC_run (hs : ∀ j ob, Hr j = some ob → H j = some ob) (hm : Mem w0 S R0 D H F r w) {src dst : TypeId} {c : Cell} {av : AV} (h : convC P Hr src dst c = some av) {u : Value} (hu : c.rep F r u) :
    ∃ v, (convert src dst u).run P w = .ok v w ∧ av.rep F r v ∧ av.inn D := by
  unfold convC at h
  split at h
  · rename_i e hsrc hdst
    cases hb : isBytes P e with
    | false => rw [hb] at h; cases h
    | true =>
      rw [hb, cond_true] at h
      split at h
      · rename_i cs n js hc
        split at h
        · rename_i l hl
          cases hn : Nat.beq l.length n with
          | false => rw [hn] at h; cases h
          | true =>
            rw [hn, cond_true] at h
            have hn' := Nat.eq_of_beq_eq_true hn
            subst hn'
            injection h with h; subst h
            obtain ⟨a, b, o, cap, vs, rfl, hB, _⟩ := baseC_run (P := P) (hm.sees.sub hs) hc hu
            have hrun := bytesToString_run2 hsrc (isBytes_spec hb) hdst (bytesC_rep hl hB.rep) hB.reads
            refine ⟨_, hrun, ?_, ?_⟩
            · cases hasYc cs <;> rfl
            · cases hasYc cs <;> trivial
        · cases h
      · cases h
  · cases h
end
/-! ### Numbers that are not known, written out -/
def isMapD : TypeDesc → Bool
  | .map _ _ => true
  | _ => false
def yC : Cell → Bool
  | .y _ _ => true
  | _ => false
def yL : List Cell → Bool
  | [] => false
  | c :: l => yC c || yL l
def yP : Part → Bool
  | .one c => yC c
  | .many l => yL l
def yPs : List (Nat × Part) → Bool
  | [] => false
  | x :: l => yP x.2 || yPs l
def litBuildY (P : Program) (nx : Nat) (t : TypeId) (len : Nat) (ps : List (Nat × Part)) : Option (Tree Eff) := match P.underlying t with
  | some (.slice e) => match P.info? e with
    | some i => match i.zero with
      | some z => bif yPs ps then some (bif Nat.blt 0 i.size && (Nat.blt 0 len && Nat.ble (len * i.size) 16777216) then
          match fillA (fun k => some (k * i.size, i.size)) (kCells (madeCells z.cells (len * i.size)).toList) ps with
          | some cs => bif okAll cs && Nat.beq cs.length (len * i.size) then .ret ⟨some (AV.c (.h nx)), [(nx, .lr i.size len cs)], 1⟩ else .fail
          | none => .fail
        else .fail) else none
      | none => none
    | none => none
  | _ => none
section
variable {P : Program} {w0 : World} {S : Nat → Nat → Prop} {R0 : Frag} {D : Nat → Prop} {H Hr : Hf} {F : Frag} {r : Loc} {w : World} {E : Ef}
theorem litBuildY_run (hm : Mem w0 S R0 D H F r w) {nx : Nat} {eff : Eff} (hnx : ∀ j, nx ≤ j → j < nx + eff.nn → ¬ D j) {t : TypeId} {len : Nat} {ps : List (Nat × Part)} {tr : Tree Eff} (ht : litBuildY P nx t len ps = some tr) (h : tr.run = some eff)
    {us : List (Nat × Value)} (hu : ipRep F r ps us) (hp : ∀ p ∈ ps, p.2.inn D) : ∃ v w' r', (Instr.buildSlice t len us.toArray).run P w = .ok v w' ∧ After w0 S R0 D H F r nx eff F r' w' v := by
  unfold litBuildY at ht
  split at ht
  · rename_i e hut
    split at ht
    · rename_i i hi
      split at ht
      · rename_i z hz
        cases hl : yPs ps with
        | false => rw [hl] at ht; cases ht
        | true =>
          rw [hl] at ht
          simp only [cond_true, Option.some.injEq] at ht; subst ht
          cases hb : (Nat.blt 0 i.size && (Nat.blt 0 len && Nat.ble (len * i.size) 16777216)) with
          | false => rw [hb] at h; cases h
          | true =>
            rw [hb] at h
            simp only [cond_true] at h
            simp only [Bool.and_eq_true] at hb
            obtain ⟨hpos, hlen, hle⟩ := hb
            have hpos : 0 < i.size := Nat.le_of_ble_eq_true hpos
            have hlen : 0 < len := Nat.le_of_ble_eq_true hlen
            have hle : len * i.size ≤ 16777216 := Nat.le_of_ble_eq_true hle
            split at h
            · rename_i cs hcs
              cases hok : (okAll cs && Nat.beq cs.length (len * i.size)) with
              | false => rw [hok] at h; cases h
              | true =>
                rw [hok] at h
                simp only [Bool.and_eq_true] at hok
                obtain ⟨hok, hcl⟩ := hok
                have hcl := Nat.eq_of_beq_eq_true hcl
                simp only [cond_true, Tree.run, Option.some.injEq] at h; subst h
                obtain ⟨vs, hfill, hvs⟩ := fillA_fill hcs (kCells_rep F r (madeCells z.cells (len * i.size)).toList) hu
                have hci := fillA_inn hcs (kCells_inn D _) hp
                have hnx0 := hnx nx (Nat.le_refl _) (Nat.lt_succ_self _)
                have hvl : vs.length = len * i.size := by rw [cellsRep_length hvs, hcl]
                have hlm : len ≤ maxLen := by
                  have h1 : len * 1 ≤ len * i.size := Nat.mul_le_mul_left len hpos
                  have h2 : 16777216 ≤ maxLen := by unfold maxLen; decide
                  omega
                have hmem := hm.newLr hnx0 (js := []) (fun _ h => by cases h) hci hvs (okAll_one hok hvs) hvl (arr := vs.toArray) (rest := []) (by simp) (cap := len) (by simp [hvl]) (Nat.le_refl _) hlm (w1 := w) rfl (Below.refl _ _) e
                refine ⟨.slice (some ⟨w.heap.size, 0, none⟩) len len, w.alloc (.cells vs.toArray e), _, ?_, locPut_agree r hnx0 _, Frag.le_refl F, hmem.monoD (fun j => More_one), fun av hav => ?_⟩
                · have hgt : ¬ (16777216 < len * i.size) := by omega
                  have hne : ¬ len * i.size = 0 := by
                    intro h0
                    rcases Nat.mul_eq_zero.1 h0 with h0 | h0 <;> omega
                  have hfill' : Instr.fill (fun k => some (k * i.size, i.size)) ((Array.range (len * i.size)).map (z.cells[· % z.cells.size]!)) us = some vs.toArray := by
                    have : (madeCells z.cells (len * i.size)).toList.toArray = (Array.range (len * i.size)).map (z.cells[· % z.cells.size]!) := by rw [Array.toArray_toList]; rfl
                    rw [this] at hfill; exact hfill
                  simp [Instr.buildSlice, run_underlying hut, sizeOf, typeInfo, hi, zeroValue, hz, hne, hgt, hfill', newRow]
                · injection hav with hav; subst hav
                  exact ⟨⟨by rw [locPut_self], rfl⟩, More_one (.inr rfl)⟩
            · cases h
      · cases ht
    · cases ht
  · cases ht
end
def litU (P : Program) (H : Hf) (E : Ef) (nx : Nat) (o : Oper) : Option (Tree Eff) := match o.op with
  | .makeInterface t x => match evalO E x with
    | some (.p q) => (makeIfc P t q).map fun c => oneT (AV.c c)
    | _ => none
  | .typeAssert x _ t ok => match evalO E x with
    | some (.p (.one (.clo g caps))) => bif isFn g then none else (assertT P (ifcT g) (ifcPart g caps) t ok).map oneT
    | _ => none
  | .binOp op t x y _ => match evalO E x, evalO E y with
    | some (.p (.one (.clo g _))), some (.p (.one (.v v))) => (nilT P op t g v).map fun b => oneT (AV.b b)
    | some (.p (.one (.h j))), some (.p (.one (.v (.map none)))) => (mapNil P H op t j).map fun b => oneT (AV.b b)
    | some (.p (.one (.h j))), some (.p (.one (.v (.slice none 0 0)))) => (rowNil P H op t j).map fun b => oneT (AV.b b)
    | _, _ => none
  | .load t a => match evalO E a with
    | some (.p (.one c)) => (ldC P H t c).map fun x => oneT (.p x)
    | _ => none
  | .store t a x => match evalO E a, evalO E x with
    | some (.p (.one c)), some (.p q) => (stX P H t c q).map fun ups => .ret ⟨none, ups, 0⟩
    | _, _ => none
  | .indexAddr t x i => match evalO E x, evalO E i with
    | some (.p (.one c)), some (.p (.one d)) => match intOf d with
      | some n => idxC P H t c n
      | none => none
    | _, _ => none
  | .slice t x lo hi mx => match evalO E x, optI E lo, optI E hi, optI E mx with
    | some (.p (.one c)), some lo, some hi, some mx => slcC P H t c lo hi mx
    | _, _, _, _ => none
  | .makeMap t none => match P.underlying t with
    | some d => bif isMapD d then some (.ret ⟨some (AV.c (.h nx)), [(nx, .cm [])], 1⟩) else none
    | none => none
  | .mapUpdate t m k v => match evalO E m, evalO E k, evalO E v with
    | some (.p (.one c)), some (.p (.one d)), some (.p q) => (putC P H t c d q).map fun ups => .ret ⟨none, ups, 0⟩
    | some (.p (.one c)), some (.p (.many l)), some (.p q) => (putMk P H t c l q).map fun ups => .ret ⟨none, ups, 0⟩
    | _, _, _ => none
  | .insert t m k v => match evalO E m, evalO E k, evalO E v with
    | some (.p (.one c)), some (.p (.one d)), some (.p q) => (putC P H t c d q).map fun ups => .ret ⟨none, ups, 0⟩
    | some (.p (.one c)), some (.p (.many l)), some (.p q) => (putMk P H t c l q).map fun ups => .ret ⟨none, ups, 0⟩
    | _, _, _ => none
  | .lookup t m k ok => match evalO E m, evalO E k with
    | some (.p (.one c)), some (.p (.one d)) => (lookC P H t c d ok).map oneT
    | some (.p (.one c)), some (.p (.many l)) => (lookMk P H t c l ok).map oneT
    | _, _ => none
  | .buildSlice t len parts => match evalParts E parts.toList with
    | some ps => litBuildY P nx t len ps
    | none => none
  | .call c => match c.callee, c.args.toList with
    | .builtin .len, [x] => match evalO E x, c.argTypes.toList with
      | some (.p (.one a)), [t] => (lenC P H t a).map fun (n : Nat) => oneT (AV.c (.v (goInt n)))
      | _, _ => none
    | .builtin .append, [x, y] => match evalO E x, evalO E y with
      | some (.p (.one a)), some (.p (.one b)) => appendX P H nx c.argTypes.toList a b
      | _, _ => none
    | .builtin .copy, [x, y] => match evalO E x, evalO E y with
      | some (.p (.one a)), some (.p (.one b)) => (copyX P H c.argTypes.toList a b).map .ret
      | _, _ => none
    | .builtin .clear, [x] => match evalO E x with
      | some (.p (.one a)) => (clrC P H c.argTypes.toList a).map .ret
      | _ => none
    | .builtin .delete, [m, k] => match evalO E m, evalO E k, c.argTypes.toList with
      | some (.p (.one a)), some (.p (.one b)), [t, _] => (delC P H t a b).map fun ups => .ret ⟨some (.t []), ups, 0⟩
      | _, _, _ => none
    | _, _ => none
  | .convert src dst x => match evalO E x with
    | some (.p (.one c)) => (convC P H src dst c).map oneT
    | _ => none
  | _ => none
theorem map_some {α β : Type} {f : α → β} {o : Option α} {y : β} (h : o.map f = some y) : ∃ x, o = some x ∧ y = f x := by
  cases o with
  | none => cases h
  | some x => injection h with h; exact ⟨x, rfl, h.symm⟩
theorem one_run {av : AV} {eff : Eff} (h : (oneT av).run = some eff) : eff = ⟨some av, [], 0⟩ := by
  unfold oneT at h
  simp only [Tree.run, Option.some.injEq] at h
  exact h.symm
theorem litU_out (hs : ∀ j ob, Hr j = some ob → H j = some ob) (hm : Mem w0 S R0 D H F r w) {nx : Nat} {eff : Eff} (hnx : ∀ j, nx ≤ j → j < nx + eff.nn → ¬ D j) {o : Oper} {tr : Tree Eff} (ht : litU P Hr E nx o = some tr) (h : tr.run = some eff) {a : Act} (he : EnvR F r E a) (hi : EnvIn D E) : Out P w0 S R0 D H F r nx eff o a w := by
  have same : ∀ {v : Value} {av : AV}, eff = ⟨some av, [], 0⟩ → (∃ v, (execOp a.eval o).run P w = .ok (.value v) w ∧ av.rep F r v ∧ av.inn D) → Out P w0 S R0 D H F r nx eff o a w := fun e1 ⟨v, e4, e2, e3⟩ => by
    subst e1
    exact ⟨_, v, w, F, r, e4, .inl rfl, after_same rfl hm fun av hav => by injection hav with hav; subst hav; exact ⟨e2, e3⟩⟩
  have ups : ∀ {l : List (Nat × Ob)} {w' : World}, eff = ⟨none, l, 0⟩ → (execOp a.eval o).run P w = .ok .skip w' → Mem w0 S R0 D (updH l H) F r w' → Out P w0 S R0 D H F r nx eff o a w := fun e1 e2 e3 => by
    subst e1
    exact ⟨_, undef, _, F, r, e2, .inr ⟨rfl, rfl⟩, after_same rfl e3 fun av hav => by cases hav⟩
  unfold litU at ht
  split at ht
  · rename_i t x ho
    split at ht
    · rename_i q hx
      obtain ⟨c, hc, rfl⟩ := map_some ht
      obtain ⟨v, g1, g2, g3⟩ := makeIfc_run hc (evalO_rep he hx) (evalO_inn hi hx) w
      refine same (v := v) (one_run h) ⟨v, ?_, g2, g3⟩
      simp only [execOp, ho, Sem.run_bind, g1, Result.andThen_ok, Sem.run_pure]
    · cases ht
  · rename_i x xt t ok ho
    split at ht
    · rename_i g caps hx
      have hr : (Cell.clo g caps).rep F r (a.eval x) := evalO_rep he hx
      have hin : ∀ k ∈ caps, k.inn D := evalO_inn hi hx
      obtain ⟨vs, h1, h2⟩ := hr
      have hq : ∀ q, ifcPart g caps = some q → q.rep F r (bif ifcA g then .agg vs.toArray else vs.headD (.tuple #[])) ∧ q.inn D := fun q hq => ⟨ifcPart_rep hq h1, ifcPart_inn hq hin⟩
      generalize hg : isFn g = b at ht
      cases b with
      | true => cases ht
      | false =>
        rw [cloV_ifc hg] at h2
        generalize ifcPart g caps = qo at ht hq
        generalize (bif ifcA g then Value.agg vs.toArray else vs.headD (.tuple #[])) = pl at h2 hq
        generalize ifcT g = gt at ht h2
        simp only [cond_false] at ht
        obtain ⟨av, hav, rfl⟩ := map_some ht
        obtain ⟨v, g1, g2, g3⟩ := assertT_run (xt := xt) hav hq w
        refine same (v := v) (one_run h) ⟨v, ?_, g2, g3⟩
        simp only [execOp, ho, Sem.run_bind, h2, g1, Result.andThen_ok, Sem.run_pure]
    · cases ht
  · rename_i op t x y yt ho
    split at ht
    · rename_i g caps v hx hy
      obtain ⟨b, hb, rfl⟩ := map_some ht
      have hyv : a.eval y = v := evalO_rep he hy
      have g1 := nilT_run hb (evalO_rep he hx : (Cell.clo g caps).rep F r (a.eval x)) x y w
      refine same (v := .bool b) (one_run h) ⟨.bool b, ?_, rfl, trivial⟩
      simp only [execOp, ho]
      rw [hyv, Sem.run_bind, g1, Result.andThen_ok]
      rfl
    · rename_i j hx hy
      obtain ⟨b, hb, rfl⟩ := map_some ht
      have hyv : a.eval y = .map none := evalO_rep he hy
      have hxr : (Cell.h j).rep F r (a.eval x) := evalO_rep he hx
      unfold mapNil at hb
      split at hb
      · rename_i m k e hj hut
        obtain ⟨h0, _⟩ := hm.obs j _ (hs _ _ hj)
        refine same (v := .bool b) (one_run h) ⟨.bool b, ?_, rfl, trivial⟩
        simp only [execOp, ho]
        rw [hyv, hxr.1, h0]
        have key : ∀ d : Nat, (Op.equalIn (d + 1) t (.map (some (r j).b)) (.map none)).run P w = .ok false w := fun d => by
          simp only [Op.equalIn, Sem.run_bind, run_underlying hut, Result.andThen_ok, Sem.run_pure]
        split at hb
        · injection hb with hb; subst hb
          rw [Sem.run_bind, Sem.run_bind, show (eqGuard .eql t x y (.map (some (r j).b)) (.map none)).run P w = .ok () w from rfl, Result.andThen_ok]
          simp only [binOp]
          simp [Op.equal, Op.maxDepth, key]
        · injection hb with hb; subst hb
          rw [Sem.run_bind, Sem.run_bind, show (eqGuard .neq t x y (.map (some (r j).b)) (.map none)).run P w = .ok () w from rfl, Result.andThen_ok]
          simp only [binOp]
          simp [Op.equal, Op.maxDepth, key]
        · cases hb
      · cases hb
    · rename_i j hx hy
      obtain ⟨b, hb, rfl⟩ := map_some ht
      have hyv : a.eval y = .slice none 0 0 := evalO_rep he hy
      have hxr : (Cell.h j).rep F r (a.eval x) := evalO_rep he hx
      have g1 := rowNil_run hs hm hb x y
      refine same (v := .bool b) (one_run h) ⟨.bool b, ?_, rfl, trivial⟩
      simp only [execOp, ho]
      rw [hyv, hxr.1, Sem.run_bind, g1, Result.andThen_ok]
      rfl
    · cases ht
  · rename_i t x ho
    split at ht
    · rename_i c hx
      obtain ⟨q, hq, rfl⟩ := map_some ht
      obtain ⟨v, g1, g2, g3⟩ := ldC_run hs hm hq (evalO_rep he hx)
      refine same (v := v) (one_run h) ⟨v, ?_, g2, g3⟩
      simp only [execOp, ho, Sem.run_bind, g1, Result.andThen_ok, Sem.run_pure]
    · cases ht
  · rename_i t x y ho
    split at ht
    · rename_i c q hx hy
      obtain ⟨l, hl, rfl⟩ := map_some ht
      simp only [Tree.run, Option.some.injEq] at h
      obtain ⟨w', g1, g2⟩ := stX_run hs hm hl (evalO_rep he hx) (evalO_rep he hy) (evalO_inn hi hy)
      refine ups h.symm ?_ g2
      simp only [execOp, ho, Sem.run_bind, g1, Result.andThen_ok, Sem.run_pure]
    · cases ht
  · rename_i t x i ho
    split at ht
    · rename_i c d hx hd
      split at ht
      · rename_i n hn
        obtain ⟨k, hk⟩ := intOf_rep hn (evalO_rep he hd)
        obtain ⟨v, g1, g2⟩ := idxC_run (nx := nx) hs hm ht h (evalO_rep he hx) (evalO_inn hi hx) k
        refine ⟨_, v, w, F, r, ?_, .inl rfl, g2⟩
        simp only [execOp, ho, hk, Sem.run_bind, g1, Result.andThen_ok, Sem.run_pure]
      · cases ht
    · cases ht
  · rename_i t x lo hi0 mx ho
    split at ht
    · rename_i c lo' hi' mx' hx hlo hhi hmx
      obtain ⟨v, g1, g2⟩ := slcC_run (nx := nx) hs hm ht h (evalO_rep he hx) (evalO_inn hi hx) (optI_val he hlo) (optI_val he hhi) (optI_val he hmx)
      refine ⟨_, v, w, F, r, ?_, .inl rfl, g2⟩
      simp only [execOp, ho, Sem.run_bind, g1, Result.andThen_ok, Sem.run_pure]
    · cases ht
  · rename_i t ho
    split at ht
    · rename_i d hd
      cases hb : isMapD d with
      | false => rw [hb] at ht; cases ht
      | true =>
        rw [hb] at ht
        simp only [cond_true, Option.some.injEq] at ht; subst ht
        simp only [Tree.run, Option.some.injEq] at h; subst h
        have hnx0 := hnx nx (Nat.le_refl _) (Nat.lt_succ_self _)
        refine ⟨_, .map (some w.heap.size), _, F, _, ?_, .inl rfl, locPut_agree r hnx0 _, Frag.le_refl F, (hm.newCm hnx0 (m := []) (es := #[]) (clock := 0) (fun x hx => by cases hx) trivial (by simp) (fun e he => by simp at he)).monoD (fun j => More_one), fun av hav => ?_⟩
        · simp only [execOp, ho, Option.map_none, Sem.run_bind, run_makeMap, Result.andThen_ok, Sem.run_pure]
        · injection hav with hav; subst hav
          exact ⟨⟨by rw [locPut_self], rfl⟩, More_one (.inr rfl)⟩
    · cases ht
  · rename_i t m k v ho
    split at ht
    · rename_i c d q hx hd hq
      obtain ⟨l, hl, rfl⟩ := map_some ht
      simp only [Tree.run, Option.some.injEq] at h
      obtain ⟨w', g1, g2⟩ := putC_run hs hm hl (evalO_rep he hx) (evalO_rep he hd) (evalO_rep he hq) (evalO_inn hi hq)
      refine ups h.symm ?_ g2
      simp only [execOp, ho, Sem.run_bind, g1, Result.andThen_ok, Sem.run_pure]
    · rename_i c d q hx hd hq
      obtain ⟨l, hl, rfl⟩ := map_some ht
      simp only [Tree.run, Option.some.injEq] at h
      obtain ⟨w', g1, g2⟩ := putMk_run hs hm hl (evalO_rep he hx) (evalO_rep he hd) (evalO_rep he hq) (evalO_inn hi hq)
      refine ups h.symm ?_ g2
      simp only [execOp, ho, Sem.run_bind, g1, Result.andThen_ok, Sem.run_pure]
    · cases ht
  · rename_i t m k v ho
    split at ht
    · rename_i c d q hx hd hq
      obtain ⟨l, hl, rfl⟩ := map_some ht
      simp only [Tree.run, Option.some.injEq] at h
      obtain ⟨w', g1, g2⟩ := putC_run hs hm hl (evalO_rep he hx) (evalO_rep he hd) (evalO_rep he hq) (evalO_inn hi hq)
      refine ups h.symm ?_ g2
      simp only [execOp, ho, Sem.run_bind, g1, Result.andThen_ok, Sem.run_pure]
    · rename_i c d q hx hd hq
      obtain ⟨l, hl, rfl⟩ := map_some ht
      simp only [Tree.run, Option.some.injEq] at h
      obtain ⟨w', g1, g2⟩ := putMk_run hs hm hl (evalO_rep he hx) (evalO_rep he hd) (evalO_rep he hq) (evalO_inn hi hq)
      refine ups h.symm ?_ g2
      simp only [execOp, ho, Sem.run_bind, g1, Result.andThen_ok, Sem.run_pure]
    · cases ht
  · rename_i t m k ok ho
    split at ht
    · rename_i c d hx hd
      obtain ⟨av, hav, rfl⟩ := map_some ht
      obtain ⟨v, g1, g2, g3⟩ := lookC_run hs hm hav (evalO_rep he hx) (evalO_rep he hd)
      refine same (v := v) (one_run h) ⟨v, ?_, g2, g3⟩
      simp only [execOp, ho, Sem.run_bind, g1, Result.andThen_ok, Sem.run_pure]
    · rename_i c l hx hd
      obtain ⟨av, hav, rfl⟩ := map_some ht
      obtain ⟨v, g1, g2, g3⟩ := lookMk_run hs hm hav (evalO_rep he hx) (evalO_rep he hd)
      refine same (v := v) (one_run h) ⟨v, ?_, g2, g3⟩
      simp only [execOp, ho, Sem.run_bind, g1, Result.andThen_ok, Sem.run_pure]
    · cases ht
  · rename_i t len parts ho
    split at ht
    · rename_i ps hps
      obtain ⟨v, w', r', g1, g2⟩ := litBuildY_run hm hnx ht h (evalParts_rep he hps) (evalParts_inn hi hps)
      have h1 : (parts.map fun (p : Nat × Operand) => (p.1, a.eval p.2)) = (parts.toList.map fun (p : Nat × Operand) => (p.1, a.eval p.2)).toArray := by
        apply Array.ext'; simp
      rw [← h1] at g1
      refine ⟨_, v, w', F, r', ?_, .inl rfl, g2⟩
      simp only [execOp, ho, Sem.run_bind]
      exact (congrArg (fun y => Result.andThen y _) g1).trans rfl
    · cases ht
  · rename_i c ho
    split at ht
    · rename_i x hcal hargs
      have ha : c.args.map a.eval = #[a.eval x] := by
        apply Array.ext'
        rw [Array.toList_map, hargs]; rfl
      split at ht
      · rename_i ca t hx hty
        obtain ⟨n, hn, rfl⟩ := map_some ht
        have g1 := lenC_run hs hm hn (evalO_rep he hx) c.argTypes hty o.type
        refine same (v := goInt n) (one_run h) ⟨goInt n, ?_, rfl, trivial⟩
        simp only [execOp, ho, resolve, hcal, Sem.run_bind, Sem.run_pure, Result.andThen_ok, invoke, ha, builtin, g1]
      · cases ht
    · rename_i x y hcal hargs
      have ha : c.args.map a.eval = #[a.eval x, a.eval y] := by
        apply Array.ext'
        rw [Array.toList_map, hargs]; rfl
      split at ht
      · rename_i ca cb hx hy
        obtain ⟨v, w', r', g1, g2⟩ := appendX_run (tys := c.argTypes) hs hm hnx ht h (evalO_rep he hx) (evalO_rep he hy) o.type
        refine ⟨_, v, w', F, r', ?_, .inl rfl, g2⟩
        simp only [execOp, ho, resolve, hcal, Sem.run_bind, Sem.run_pure, Result.andThen_ok, invoke, ha, builtin, g1]
      · cases ht
    · rename_i x y hcal hargs
      have ha : c.args.map a.eval = #[a.eval x, a.eval y] := by
        apply Array.ext'
        rw [Array.toList_map, hargs]; rfl
      split at ht
      · rename_i ca cb hx hy
        obtain ⟨eff', he', rfl⟩ := map_some ht
        simp only [Tree.run, Option.some.injEq] at h; subst h
        obtain ⟨v, w', g1, g2⟩ := copyX_run (nx := nx) (tys := c.argTypes) hs hm he' (evalO_rep he hx) (evalO_rep he hy) o.type
        refine ⟨_, v, w', F, r, ?_, .inl rfl, g2⟩
        simp only [execOp, ho, resolve, hcal, Sem.run_bind, Sem.run_pure, Result.andThen_ok, invoke, ha, builtin, g1]
      · cases ht
    · rename_i x hcal hargs
      have ha : c.args.map a.eval = #[a.eval x] := by
        apply Array.ext'
        rw [Array.toList_map, hargs]; rfl
      split at ht
      · rename_i ca hx
        obtain ⟨eff', he', rfl⟩ := map_some ht
        simp only [Tree.run, Option.some.injEq] at h; subst h
        obtain ⟨v, w', g1, g2⟩ := clrC_run (nx := nx) (tys := c.argTypes) hs hm he' (evalO_rep he hx) o.type
        refine ⟨_, v, w', F, r, ?_, .inl rfl, g2⟩
        simp only [execOp, ho, resolve, hcal, Sem.run_bind, Sem.run_pure, Result.andThen_ok, invoke, ha, builtin, g1]
      · cases ht
    · rename_i m k hcal hargs
      have ha : c.args.map a.eval = #[a.eval m, a.eval k] := by
        apply Array.ext'
        rw [Array.toList_map, hargs]; rfl
      split at ht
      · rename_i ca cb t t2 hx hy hty
        obtain ⟨l, hl, rfl⟩ := map_some ht
        simp only [Tree.run, Option.some.injEq] at h; subst h
        have hty' : c.argTypes = #[t, t2] := by apply Array.ext'; rw [hty]
        obtain ⟨w', g1, g2⟩ := delC_run hs hm hl (evalO_rep he hx) (evalO_rep he hy) t2 o.type
        refine ⟨_, .tuple #[], w', F, r, ?_, .inl rfl, after_same rfl g2 fun av hav => ?_⟩
        · simp only [execOp, ho, resolve, hcal, Sem.run_bind, Sem.run_pure, Result.andThen_ok, invoke, ha, builtin, hty', g1]
        · injection hav with hav; subst hav
          exact ⟨undef_rep' F r, fun x hx => by cases hx⟩
      · cases ht
    · cases ht
  · rename_i src dst x ho
    split at ht
    · rename_i c hx
      obtain ⟨av, hav, rfl⟩ := map_some ht
      obtain ⟨v, g1, g2, g3⟩ := convC_run hs hm hav (evalO_rep he hx)
      refine same (v := v) (one_run h) ⟨v, ?_, g2, g3⟩
      simp only [execOp, ho, Sem.run_bind, g1, Result.andThen_ok, Sem.run_pure]
    · cases ht
  · cases ht
def litAll (P : Program) (H : Hf) (E : Ef) (nx : Nat) (o : Oper) : Option (Tree Eff) := match litU P H E nx o with
  | some t => some t
  | none => litT P E nx o
theorem litAll_out (hs : ∀ j ob, Hr j = some ob → H j = some ob) (hm : Mem w0 S R0 D H F r w) {nx : Nat} {eff : Eff} (hnx : ∀ j, nx ≤ j → j < nx + eff.nn → ¬ D j) {o : Oper} {tr : Tree Eff} (ht : litAll P Hr E nx o = some tr) (h : tr.run = some eff) {a : Act} (he : EnvR F r E a) (hi : EnvIn D E) : Out P w0 S R0 D H F r nx eff o a w := by
  unfold litAll at ht
  split at ht
  · rename_i t hu
    injection ht with ht; subst ht
    exact litU_out hs hm hnx hu h he hi
  · exact lit_out hm hnx ht h he hi
end
end Go.Sz
