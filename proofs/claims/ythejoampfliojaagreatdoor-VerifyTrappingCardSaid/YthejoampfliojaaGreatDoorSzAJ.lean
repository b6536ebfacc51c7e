/-
  A symbolic machine for one call, with rows of any length: what comes in lies in memory that is there.
-/
import Derived.Test.YthejoampfliojaaGreatDoorSzAI
import Derived.SizedLaws
noncomputable section
namespace Go.Sz
open Go Go.RowKit Go.Sy Go.ChangeShapes Go.WideShapes
set_option linter.unusedVariables false
set_option linter.unusedSimpArgs false

/-- each row among the parameters takes no more bytes than a process can have -/
def sizedS (P : Program) : (ts : List TypeId) → (sh : List PSh) → denS sh → Prop
  | t :: ts, .one (.sl tt) :: sh, x => (match P.underlying t with
    | some (.slice e) => x.1.length * P.bytesOf e ≤ reachBytes
    | _ => True) ∧ sizedS P ts sh x.2
  | _ :: ts, _ :: sh, x => sizedS P ts sh x.2
  | _, _, _ => True

section
variable {H : Type} {enc : TypeId × Value → H} {P : Program} {w : World} {base : Nat} {spare : Nat → Bool} {held : Bool}
theorem sized_one {t e : TypeId} {v : Value} {d : DataW H} {p : List MemPlace} {ts : Tys} {l : List ts.den} {F : Frag} {r : Loc} (hu : P.underlying t = some (.slice e)) (h : DataW.Trod enc P w base spare held t v d p) (hx : (Cell.d ts l).rep F r v)
    (hw : ∀ n ∈ d.weights P t, n ≤ reachBytes) : l.length * P.bytesOf e ≤ reachBytes := by
  simp only [Cell.rep, RepT] at hx
  obtain ⟨fuel, h⟩ := h
  obtain ⟨a0, cap0, rfl, _⟩ := hx
  rcases DataW.trod_slice hu h with ⟨h1, h2⟩ | ⟨a, len, cap, elems, rest, n, _, h1, h2, _, _, _, hl, _⟩
  · simp only [Value.cells] at h1
    have h0 : l.length = 0 := by
      have := List.cons.inj h1
      injection this.1 with _ e _
    rw [h0, Nat.zero_mul]
    exact Nat.zero_le _
  · simp only [Value.cells] at h1
    have h0 : l.length = len := by
      have := List.cons.inj h1
      injection this.1 with _ e _
    injection h2 with h2 _
    subst h2
    have := hw ((elems.length + rest.length) * P.bytesOf e) (by simp [DataW.weights, hu])
    have : l.length * P.bytesOf e ≤ (elems.length + rest.length) * P.bytesOf e := Nat.mul_le_mul_right _ (by omega)
    omega
theorem sized_all : ∀ (ts : List TypeId) (vs : List Value) (ds : List (DataW H)) (ps : List MemPlace) (sh : List PSh) (x : denS sh), DataW.TrodAll enc P w base spare held ts vs ds ps → (∀ r, avsRep (memF w) r (avS sh x) vs) →
    (∀ (j : Nat) t d, ts[j]? = some t → ds[j]? = some d → ∀ n ∈ d.weights P t, n ≤ reachBytes) → sizedS P ts sh x
  | [], _, _, _, _, _, _, _, _ => by unfold sizedS; trivial
  | _ :: _, _, _, _, [], _, _, _, _ => by unfold sizedS; trivial
  | t :: ts, vs, ds, ps, s :: sh, x, h, hx, hw => by
    obtain ⟨v, vs', d, ds', p, q, rfl, rfl, rfl, h1, h2⟩ := trodAll_cons h
    have ih := sized_all ts vs' ds' q sh x.2 h2 (fun r => (hx r).2) fun j t d ht hd => hw (j + 1) t d (by simpa using ht) (by simpa using hd)
    cases s with
    | many _ => exact ih
    | one u =>
      cases u with
      | sl tt =>
        refine ⟨?_, ih⟩
        split
        · rename_i e hu
          exact sized_one (r := fun _ => ⟨0, 0, undef⟩) hu h1 (hx (fun _ => ⟨0, 0, undef⟩)).1 (hw 0 t d rfl rfl)
        · trivial
      | _ => exact ih
end

theorem law_lifted_sized {H : Type} {enc : TypeId × Value → H} {C : Checked} {os : Os} {f : FuncId} {fn : Func} {s : ChangeSpec} {tb : TypeId} {conds : List PathCond} (own : ownKnob C.prog.godebug = none) (laid : laidOutB C.prog = true) (started : os.Started)
    (noInit : C.prog.inits.idxOf? f = none) (hfn : C.prog.funcs[f]? = some fn) (hvars : s.vars = []) (hread : ∀ t ∈ fn.params.toList, C.prog.readableRec t = true ∧ t < C.prog.types.size)
    (hres : fn.resultTypes = #[tb]) (hb : C.prog.underlying tb = some .bool) (hspec : ∀ ds : List (DataW H), ds.length = fn.params.size → s.fn H ds = { results := [.lit (.bool true)], args := ds })
    (witness : ∃ (w : World) (tape : Tape) (i : Input), w.os = os ∧ (w.forCall tape i).Shaped C.prog ∧ i.vars = [] ∧ Input.okWide C.prog (w.forCall tape i) .any w.heap.size f i ∧
      s.pre6 enc C.prog fn conds false (w.forCall tape i).memory i.args ∧ ({} : Assume).holds C.prog (lone (Frame.enter C.prog f i.args .normal) [] (w.forCall tape i)))
    (hcall : ∀ (W : World) (base : Nat) (args : Array Value) (ds : List (DataW H)) (before : List MemPlace),
      (∀ (j : Nat) t v, fn.params[j]? = some t → args[j]? = some v → Value.okWide C.prog W .any base t v) →
      DataW.TrodAll enc C.prog W 0 (fun _ => true) true fn.params.toList args.toList ds before →
      (∀ (j : Nat) t d, fn.params.toList[j]? = some t → ds[j]? = some d → ∀ n ∈ d.weights C.prog t, n ≤ reachBytes) →
      Calls C.prog f args W fun e W' => e = .returned (.bool true) ∧ Below W.heap.size W W') :
    ReturnsInHanded {} C os f .any (s.pre6 enc C.prog fn conds false) (s.post enc C.prog fn false true false false) := by
  refine returnsInHanded_of_change_sized own started noInit hfn witness ?_
  intro W base args ds gs before hval hW _ hsz _
  have hW' := hW
  obtain ⟨p, q, hA, _⟩ := hW
  refine (hcall W base args ds p hval hA fun j t d ht hd n hn => ?_).mono ?_
  · have hj : j < fn.params.toList.length := (List.getElem?_eq_some_iff.1 ht).1
    have hj2 : j < ds.length := (List.getElem?_eq_some_iff.1 hd).1
    have := List.all_eq_true.1 hsz n (DataW.weights_mem_each (j := j) (t := t) (d := d) (by rw [List.getElem?_append_left hj]; exact ht) (by rw [List.getElem?_append_left hj2]; exact hd) n hn)
    simpa using this
  · rintro e W' ⟨rfl, hbel⟩
    exact ⟨_, rfl, law_post laid hvars hread hres hb hspec hW' hbel⟩

section
variable {H : Type} {enc : TypeId × Value → H} {P : Program}
theorem law_data_sized {K : Know} {T : Tab} (hT : TOk K P T) (hm : P.follows .mixedOrders = true) {f : FuncId} {fn : Func} {c : Code} (hf : P.funcs[f]? = some fn) (hb : fn.body = some c) (fuel n : Nat) {rc : List (Nat × Tys)} {sh : List PSh} (hsh : pshAll P (n + 1) fn.params.toList = some sh)
    (hev : ∀ x : denS sh, okS sh x → sizedS P fn.params.toList sh x → ∃ L, LOk P T fn.ntmps 0 fuel L c ∧ (evalFnL P T fuel L fn c rc (avS sh x) []).run = some (AV.b true, []))
    (W : World) (hk : K.ok (memF W)) (base : Nat) (args : Array Value) (ds : List (DataW H)) (before : List MemPlace) (hval : ∀ (j : Nat) t v, fn.params[j]? = some t → args[j]? = some v → Value.okWide P W .any base t v)
    (h : DataW.TrodAll enc P W 0 (fun _ => true) true fn.params.toList args.toList ds before)
    (hsz : ∀ (j : Nat) t d, fn.params.toList[j]? = some t → ds[j]? = some d → ∀ n ∈ d.weights P t, n ≤ reachBytes) : Calls P f args W fun e W' => e = .returned (.bool true) ∧ Below W.heap.size W W' := by
  obtain ⟨x, hx, hok⟩ := data_all _ _ _ _ sh hsh (fun j t v ht hv => hval j t v (by rw [← Array.getElem?_toList]; exact ht) (by rw [← Array.getElem?_toList]; exact hv)) h
  obtain ⟨L, hL, h1⟩ := hev x hok (sized_all _ _ _ _ _ x h hx hsz)
  have hempty : ∀ b o, ¬ OwnL (nthH []) (fun _ => ⟨0, 0, undef⟩) b o := fun b o ⟨j, ob, hj, _⟩ => by simp [nthH, nth_eq] at hj
  have hpre : Pre (memF W) (fun _ => ⟨0, 0, undef⟩) [] W := by
    refine ⟨fun j ob hj => ?_, fun j ob hj => ?_, fun j ob hj => ?_, fun j j' ob ob' b o hj => ?_, fun b o v hv => hv, fun b o v j ob _ hj => ?_, Fr.refl _ _, fun j ob b o hj => ?_, Frag.le_refl _, fun b o v hv => .inl hv⟩ <;> simp [nthH, nth_eq] at hj
  refine (calls_of_evalL (H := []) hT hm hf hb hL h1 hk hpre (hx _) (avS_inn _ _ _)).mono ?_
  rintro e W' ⟨u, F', r', hend, q1, q2, _, _, _⟩
  obtain rfl := hend.ret rfl
  simp only [AV.rep, Part.rep, Cell.rep] at q2
  subst q2
  exact ⟨rfl, q1.frame.below hempty⟩
end
end Go.Sz
