/-
  A symbolic machine for one call, with rows of any length: from a law's contract to the statement of its row.
-/
import Derived.Test.YtoljppjibhnndaaSzAE
import Derived.ProofKit
import Derived.OpenShut
import Derived.Carry
import Derived.Handed
import Derived.LaidLaws
import Derived.LaidHandle
import Derived.Stop.Joined
namespace Go.Sz
open Go Go.RowKit Go.Sy Go.ChangeShapes Go.WideShapes
set_option linter.unusedVariables false
set_option linter.unusedSimpArgs false
set_option linter.constructorNameAsVariable false

/-! ### A law's statement (as in Sy) -/
section
variable {H : Type} {enc : TypeId × Value → H} {P : Program}

theorem trodAll_below (hl : laidOutB P = true) {W W' : World} (hb : Below W.heap.size W W') : ∀ (ts : List TypeId) (vs : List Value) (ds : List (DataW H)) (ps : List MemPlace),
    (∀ t ∈ ts, P.readableRec t = true ∧ t < P.types.size) → DataW.TrodAll enc P W 0 (fun _ => true) true ts vs ds ps → (∀ x ∈ ps, x.block < W.heap.size) →
    DataW.TrodAll enc P W' 0 (fun b => decide (b < W.heap.size)) true ts vs ds ps
  | [], vs, ds, ps, _, h, _ => by
    obtain ⟨rfl, rfl, rfl⟩ := trodAll_nil h
    rfl
  | t :: ts, vs, ds, ps, ht, h, hp => by
    obtain ⟨v, vs', d, ds', p, q, rfl, rfl, rfl, h1, h2⟩ := trodAll_cons h
    exact ⟨p, q, Below.trod hl (ht t List.mem_cons_self).1 (ht t List.mem_cons_self).2 h1 hb (fun x hx => hp x (List.mem_append_left _ hx)),
      trodAll_below hl hb ts vs' ds' q (fun x hx => ht x (List.mem_cons_of_mem _ hx)) h2 (fun x hx => hp x (List.mem_append_right _ hx)), rfl⟩
theorem trodAll_len {w : World} {base : Nat} {spare : Nat → Bool} {held : Bool} : ∀ {ts : List TypeId} {vs : List Value} {ds : List (DataW H)} {ps : List MemPlace}, DataW.TrodAll enc P w base spare held ts vs ds ps → ds.length = ts.length
  | [], vs, ds, ps, h => by obtain ⟨_, rfl, _⟩ := trodAll_nil h; rfl
  | t :: ts, vs, ds, ps, h => by
    obtain ⟨v, vs', d, ds', p, q, rfl, rfl, rfl, h1, h2⟩ := trodAll_cons h
    simp [trodAll_len h2]

theorem law_post {fn : Func} {s : ChangeSpec} {tb : TypeId} (laid : laidOutB P = true) (hvars : s.vars = []) (hread : ∀ t ∈ fn.params.toList, P.readableRec t = true ∧ t < P.types.size)
    (hres : fn.resultTypes = #[tb]) (hb : P.underlying tb = some .bool) (hspec : ∀ ds : List (DataW H), ds.length = fn.params.size → s.fn H ds = { results := [.lit (.bool true)], args := ds })
    {W W' : World} {args : Array Value} {ds gs : List (DataW H)} {before : List MemPlace} (hW : DataW.Whole enc P fn.params.toList s.vars false W args.toList ds gs before) (hbel : Below W.heap.size W W') :
    s.post enc P fn false true false false W args (.bool true) W' := by
  have hlt := hW.lt
  have hW' := hW
  obtain ⟨p, q, hA, hV, rfl, hfz, hnd⟩ := hW
  rw [hvars] at hV
  obtain ⟨rfl, rfl⟩ := trodVars_none hV
  have hsp := hspec ds (by rw [trodAll_len hA]; simp)
  refine ⟨ds, [], p ++ [], [], p, [], hW', ?_, ?_, ?_, hbel.frame _, fun h => by cases h⟩
  · rw [List.append_nil, hsp, hres]
    exact trodAll_mk1 (shut_bool hb true)
  · rw [List.append_nil, hsp]
    exact trodAll_below laid hbel _ _ _ _ hread hA (fun x hx => hlt x (List.mem_append_left _ hx))
  · rw [List.append_nil, hsp, hvars]
    rfl

theorem law_lifted {C : Checked} {os : Os} {f : FuncId} {fn : Func} {s : ChangeSpec} {tb : TypeId} {conds : List PathCond} (own : ownKnob C.prog.godebug = none) (laid : laidOutB C.prog = true) (started : os.Started)
    (noInit : C.prog.inits.idxOf? f = none) (hfn : C.prog.funcs[f]? = some fn) (hvars : s.vars = []) (hread : ∀ t ∈ fn.params.toList, C.prog.readableRec t = true ∧ t < C.prog.types.size)
    (hres : fn.resultTypes = #[tb]) (hb : C.prog.underlying tb = some .bool) (hspec : ∀ ds : List (DataW H), ds.length = fn.params.size → s.fn H ds = { results := [.lit (.bool true)], args := ds })
    (witness : ∃ (w : World) (tape : Tape) (i : Input), w.os = os ∧ (w.forCall tape i).Shaped C.prog ∧ i.vars = [] ∧ Input.okWide C.prog (w.forCall tape i) .any w.heap.size f i ∧
      s.pre6 enc C.prog fn conds false (w.forCall tape i).memory i.args ∧ ({} : Assume).holds C.prog (lone (Frame.enter C.prog f i.args .normal) [] (w.forCall tape i)))
    (hcall : ∀ (W : World) (base : Nat) (args : Array Value) (ds : List (DataW H)) (before : List MemPlace),
      (∀ (j : Nat) t v, fn.params[j]? = some t → args[j]? = some v → Value.okWide C.prog W .any base t v) →
      DataW.TrodAll enc C.prog W 0 (fun _ => true) true fn.params.toList args.toList ds before →
      Calls C.prog f args W fun e W' => e = .returned (.bool true) ∧ Below W.heap.size W W') :
    ReturnsInHanded {} C os f .any (s.pre6 enc C.prog fn conds false) (s.post enc C.prog fn false true false false) := by
  refine returnsInHanded_of_change own started noInit hfn witness ?_
  intro W base args ds gs before hval hW _ _
  have hW' := hW
  obtain ⟨p, q, hA, _⟩ := hW
  refine (hcall W base args ds p hval hA).mono ?_
  rintro e W' ⟨rfl, hbel⟩
  exact ⟨_, rfl, law_post laid hvars hread hres hb hspec hW' hbel⟩

end

/-! ### Parameters -/
inductive PSh where
  | one (t : Ty)
  | many (ts : Tys)
@[reducible] def PSh.den : PSh → Type
  | .one t => t.den
  | .many ts => ts.den
def PSh.av : (s : PSh) → s.den → AV
  | .one t, x => .p (.one (cellOf t x))
  | .many ts, x => .p (.many (cellsOf ts x))
def PSh.ok : (s : PSh) → s.den → Prop
  | .one t, x => t.ok x
  | .many ts, x => ts.ok x
@[reducible] def denS : List PSh → Type
  | [] => Unit
  | s :: l => s.den × denS l
def avS : (l : List PSh) → denS l → List AV
  | [], _ => []
  | s :: l, x => s.av x.1 :: avS l x.2
def okS : (l : List PSh) → denS l → Prop
  | [], _ => True
  | s :: l, x => s.ok x.1 ∧ okS l x.2

def pshT (P : Program) (n : Nat) (t : TypeId) : Option PSh := match P.underlying t with
  | some .bool => some (.one .b)
  | some (.int k) => some (.one (bif k.signed then .i k else .w k))
  | some .string => some (.one .str)
  | some (.slice _) => match ldT P n t with
    | some (.cons t .nil) => some (.one t)
    | _ => none
  | some (.struct _) => (ldT P n t).map .many
  | some (.array _ _) => (ldT P n t).map .many
  | _ => none
def pshAll (P : Program) (n : Nat) : List TypeId → Option (List PSh)
  | [] => some []
  | t :: ts => match pshT P n t with
    | some x => match pshAll P n ts with
      | some xs => some (x :: xs)
      | none => none
    | none => none

section
variable {H : Type} {enc : TypeId × Value → H} {P : Program} {w : World} {base : Nat} {spare : Nat → Bool} {held : Bool} {W : World}

theorem av_inn (D : Nat → Prop) (s : PSh) (x : s.den) : (s.av x).inn D := by
  cases s with
  | one t => exact cellOf_inn D t x
  | many ts => exact cellsOf_inn D ts x
theorem avS_inn (D : Nat → Prop) : ∀ (l : List PSh) (x : denS l), ∀ a ∈ avS l x, a.inn D
  | [], _, a, ha => by cases ha
  | s :: l, x, a, ha => by
    rcases List.mem_cons.1 ha with rfl | ha
    · exact av_inn D s x.1
    · exact avS_inn D l x.2 a ha

theorem data_agg {t : TypeId} {v : Value} {d : DataW H} {p : List MemPlace} {ts : Tys} (n : Nat) (hk : ldT P n t = some ts) (hs : (match P.underlying t with | some (.struct _) => true | some (.array _ _) => true | _ => false) = true)
    {r : Reach} {b0 : Nat} (hv : Value.okWide P W r b0 t v) (h : DataW.Trod enc P w base spare held t v d p) : ∃ x : ts.den, (∀ r, ((PSh.many ts).av x).rep (memF w) r v) ∧ ts.ok x := by
  obtain ⟨fuel, hf⟩ := h
  have hv' : ∃ cs, v = .agg cs := by
    unfold Value.okWide at hv
    split at hv
    · obtain ⟨cs, rfl, _⟩ := hv; exact ⟨cs, rfl⟩
    · obtain ⟨cs, rfl, _⟩ := hv; exact ⟨cs, rfl⟩
    · rename_i hne1 hne2
      split at hs
      · rename_i e; exact absurd e (hne1 _)
      · rename_i e; exact absurd e (hne2 _ _)
      · cases hs
  obtain ⟨cs, rfl⟩ := hv'
  obtain ⟨x, h1, h2⟩ := trod_data n fuel t _ _ ts hk hf
  exact ⟨x, fun r => ⟨_, cellsOf_repL h1, by simp [Value.cells]⟩, h2⟩

theorem data_one {t : TypeId} {v : Value} {d : DataW H} {p : List MemPlace} {t1 : Ty} (n : Nat) (hk : ldT P n t = some (.cons t1 .nil)) (hs : (match P.underlying t with | some (.int _) => true | some .bool => true | some .string => true | some (.slice _) => true | _ => false) = true)
    {r : Reach} {b0 : Nat} (hv : Value.okWide P W r b0 t v) (h : DataW.Trod enc P w base spare held t v d p) : ∃ x : t1.den, (∀ r, ((PSh.one t1).av x).rep (memF w) r v) ∧ t1.ok x := by
  obtain ⟨fuel, hf⟩ := h
  obtain ⟨x, h1, h2⟩ := trod_data n fuel t _ _ _ hk hf
  have hv' : v.cells = #[v] := by
    unfold Value.okWide at hv
    split at hv
    · rename_i hu; rw [hu] at hs; cases hs
    · rename_i hu; rw [hu] at hs; cases hs
    · cases v <;> first | rfl | skip
      rename_i cs
      simp only [Cell.okWide] at hv
      exfalso
      split at hs
      · rename_i e; simp [e, Go.Cell.ok] at hv
      · rename_i e; simp [e, Go.Cell.ok] at hv
      · rename_i e; simp [e, Go.Cell.ok] at hv
      · rename_i e; simp [e, Go.Cell.ok] at hv
      · cases hs
  rw [hv'] at h1
  simp only [Tys.ok] at h2
  exact ⟨x.1, fun r => cellOf_rep h1.1, h2.1⟩

theorem data_all {n : Nat} : ∀ (ts : List TypeId) (vs : List Value) (ds : List (DataW H)) (ps : List MemPlace) (sh : List PSh), pshAll P (n + 1) ts = some sh →
    (∀ (j : Nat) t v, ts[j]? = some t → vs[j]? = some v → Value.okWide P W .any base t v) → DataW.TrodAll enc P w 0 spare held ts vs ds ps → ∃ x : denS sh, (∀ r, avsRep (memF w) r (avS sh x) vs) ∧ okS sh x
  | [], vs, ds, ps, sh, hs, _, h => by
    simp only [pshAll, Option.some.injEq] at hs; subst hs
    obtain ⟨rfl, _⟩ := trodAll_nil h
    exact ⟨(), fun _ => trivial, trivial⟩
  | t :: ts, vs, ds, ps, sh, hs, hv, h => by
    obtain ⟨v, vs', d, ds', p, q, rfl, rfl, rfl, h1, h2⟩ := trodAll_cons h
    simp only [pshAll] at hs
    split at hs
    · rename_i s hx
      split at hs
      · rename_i xs hxs
        injection hs with hs; subst hs
        obtain ⟨y, hy, hyo⟩ := data_all ts vs' ds' q xs hxs (fun j t' v' ht' hv' => hv (j + 1) t' v' (by simpa using ht') (by simpa using hv')) h2
        have hv0 := hv 0 t v rfl rfl
        have fin : ∀ x : s.den, ((∀ r, (s.av x).rep (memF w) r v) ∧ s.ok x) → ∃ x : denS (s :: xs), (∀ r, avsRep (memF w) r (avS (s :: xs) x) (v :: vs')) ∧ okS (s :: xs) x := fun x hx => ⟨(x, y), fun r => ⟨hx.1 r, hy r⟩, hx.2, hyo⟩
        unfold pshT at hx
        split at hx
        · rename_i hu
          injection hx with hx; subst hx
          obtain ⟨x, hx⟩ := data_one (n + 1) (t1 := .b) (by simp [ldT, hu]) (by simp [hu]) hv0 h1
          exact fin x hx
        · rename_i k hu
          injection hx with hx; subst hx
          obtain ⟨x, hx⟩ := data_one (n + 1) (t1 := bif k.signed then .i k else .w k) (by simp [ldT, hu]) (by simp [hu]) hv0 h1
          exact fin x hx
        · rename_i hu
          injection hx with hx; subst hx
          obtain ⟨x, hx⟩ := data_one (n + 1) (t1 := .str) (by simp [ldT, hu]) (by simp [hu]) hv0 h1
          exact fin x hx
        · rename_i hu
          split at hx
          · rename_i t1 ht1
            injection hx with hx; subst hx
            obtain ⟨x, hx⟩ := data_one (n + 1) ht1 (by simp [hu]) hv0 h1
            exact fin x hx
          · cases hx
        · rename_i hu
          cases hk : ldT P (n + 1) t with
          | none => rw [hk] at hx; cases hx
          | some ks =>
            rw [hk] at hx
            simp only [Option.map_some, Option.some.injEq] at hx; subst hx
            obtain ⟨x, hx⟩ := data_agg (n + 1) hk (by simp [hu]) hv0 h1
            exact fin x hx
        · rename_i hu
          cases hk : ldT P (n + 1) t with
          | none => rw [hk] at hx; cases hx
          | some ks =>
            rw [hk] at hx
            simp only [Option.map_some, Option.some.injEq] at hx; subst hx
            obtain ⟨x, hx⟩ := data_agg (n + 1) hk (by simp [hu]) hv0 h1
            exact fin x hx
        · cases hx
      · cases hs
    · cases hs

/-- A law's call, out of its evaluation. -/
theorem law_data2 {K : Know} (hm : P.follows .mixedOrders = true) {f : FuncId} {fn : Func} {c : Code} (hf : P.funcs[f]? = some fn) (hb : fn.body = some c) (fuel n : Nat) {rc : List (Nat × Tys)} {sh : List PSh} (hsh : pshAll P (n + 1) fn.params.toList = some sh)
    (hev : ∀ x : denS sh, okS sh x → ∃ T, TOk K P T ∧ ∃ L, LOk P T fn.ntmps 0 fuel L c ∧ (evalFnL P T fuel L fn c rc (avS sh x) []).run = some (AV.b true, []))
    (W : World) (hk : K.ok (memF W)) (base : Nat) (args : Array Value) (ds : List (DataW H)) (before : List MemPlace) (hval : ∀ (j : Nat) t v, fn.params[j]? = some t → args[j]? = some v → Value.okWide P W .any base t v)
    (h : DataW.TrodAll enc P W 0 (fun _ => true) true fn.params.toList args.toList ds before) : Calls P f args W fun e W' => e = .returned (.bool true) ∧ Below W.heap.size W W' := by
  obtain ⟨x, hx, hok⟩ := data_all _ _ _ _ sh hsh (fun j t v ht hv => hval j t v (by rw [← Array.getElem?_toList]; exact ht) (by rw [← Array.getElem?_toList]; exact hv)) h
  obtain ⟨T, hT, L, hL, h1⟩ := hev x hok
  have hempty : ∀ b o, ¬ OwnL (nthH []) (fun _ => ⟨0, 0, undef⟩) b o := fun b o ⟨j, ob, hj, _⟩ => by simp [nthH, nth_eq] at hj
  have hpre : Pre (memF W) (fun _ => ⟨0, 0, undef⟩) [] W := by
    refine ⟨fun j ob hj => ?_, fun j ob hj => ?_, fun j ob hj => ?_, fun j j' ob ob' b o hj => ?_, fun b o v hv => hv, fun b o v j ob _ hj => ?_, Fr.refl _ _, fun j ob b o hj => ?_, Frag.le_refl _, fun b o v hv => .inl hv⟩ <;> simp [nthH, nth_eq] at hj
  refine (calls_of_evalL (H := []) hT hm hf hb hL h1 hk hpre (hx _) (avS_inn _ _ _)).mono ?_
  rintro e W' ⟨u, F', r', rfl, q1, q2, _, _, _⟩
  simp only [AV.rep, Part.rep, Cell.rep] at q2
  subst q2
  exact ⟨rfl, q1.frame.below hempty⟩
/-- A law's call, out of its evaluation. -/
theorem law_data {K : Know} {T : FuncId → Option Summ} (hT : TOk K P T) (hm : P.follows .mixedOrders = true) {f : FuncId} {fn : Func} {c : Code} (hf : P.funcs[f]? = some fn) (hb : fn.body = some c) (fuel n : Nat) {rc : List (Nat × Tys)} {sh : List PSh} (hsh : pshAll P (n + 1) fn.params.toList = some sh)
    (hev : ∀ x : denS sh, okS sh x → ∃ L, LOk P T fn.ntmps 0 fuel L c ∧ (evalFnL P T fuel L fn c rc (avS sh x) []).run = some (AV.b true, []))
    (W : World) (hk : K.ok (memF W)) (base : Nat) (args : Array Value) (ds : List (DataW H)) (before : List MemPlace) (hval : ∀ (j : Nat) t v, fn.params[j]? = some t → args[j]? = some v → Value.okWide P W .any base t v)
    (h : DataW.TrodAll enc P W 0 (fun _ => true) true fn.params.toList args.toList ds before) : Calls P f args W fun e W' => e = .returned (.bool true) ∧ Below W.heap.size W W' :=
  law_data2 hm hf hb fuel n hsh (fun x hx => ⟨T, hT, hev x hx⟩) W hk base args ds before hval h
end

/-! ### Rows with laid variables -/
theorem law_lifted_laid {H : Type} {enc : TypeId × Value → H} {C : Checked} {os : Os} {f : FuncId} {fn : Func} {s : ChangeSpec} {tb : TypeId} {conds : List PathCond} {laid : List (String × DataW Unit)} {KO : World → Prop} (own : ownKnob C.prog.godebug = none) (laidOut : laidOutB C.prog = true) (started : os.Started)
    (noInit : C.prog.inits.idxOf? f = none) (hfn : C.prog.funcs[f]? = some fn) (hvars : s.vars = []) (hread : ∀ t ∈ fn.params.toList, C.prog.readableRec t = true ∧ t < C.prog.types.size)
    (hres : fn.resultTypes = #[tb]) (hb : C.prog.underlying tb = some .bool) (hspec : ∀ ds : List (DataW H), ds.length = fn.params.size → s.fn H ds = { results := [.lit (.bool true)], args := ds })
    (hK : ∀ W, laidMetH C.prog laid W → KO W)
    (witness : ∃ (w : World) (tape : Tape) (i : Input), w.os = os ∧ (w.forCall tape i).Shaped C.prog ∧ i.vars = [] ∧ Input.okWide C.prog (w.forCall tape i) .any w.heap.size f i ∧
      ((s.pre enc C.prog fn conds false (w.forCall tape i).memory i.args ∧ laidMetH C.prog laid (w.forCall tape i).memory) ∧ sizedMet enc C.prog fn (OpenSpec.ofChange s) false (w.forCall tape i).memory i.args) ∧ ({} : Assume).holds C.prog (lone (Frame.enter C.prog f i.args .normal) [] (w.forCall tape i)))
    (hcall : ∀ (W : World), KO W → ∀ (base : Nat) (args : Array Value) (ds : List (DataW H)) (before : List MemPlace),
      (∀ (j : Nat) t v, fn.params[j]? = some t → args[j]? = some v → Value.okWide C.prog W .any base t v) →
      DataW.TrodAll enc C.prog W 0 (fun _ => true) true fn.params.toList args.toList ds before →
      Calls C.prog f args W fun e W' => e = .returned (.bool true) ∧ Below W.heap.size W W') :
    ReturnsInHanded {} C os f .any (fun w args => (s.pre enc C.prog fn conds false w args ∧ laidMetH C.prog laid w) ∧ sizedMet enc C.prog fn (OpenSpec.ofChange s) false w args) (s.post enc C.prog fn false true false false) := by
  refine returnsInHanded_of_change_and (X := fun w _ => laidMetH C.prog laid w) (fun _ _ _ hh h => laidMetH.of_heap hh h) own started noInit hfn witness ?_
  intro W base args ds gs before hval hW _ _ hL _
  have hW' := hW
  obtain ⟨p, q, hA, _⟩ := hW
  refine (hcall W (hK W hL) base args ds p hval hA).mono ?_
  rintro e W' ⟨rfl, hbel⟩
  exact ⟨_, rfl, law_post laidOut hvars hread hres hb hspec hW' hbel⟩

end Go.Sz
