/-
  From a law's call to the row's statement; parameters that are numbers, bools, structs and arrays of these.
-/
import Derived.Test.YtlaaljiffcablaaGreatDoorSyJ
import Derived.ProofKit
import Derived.OpenShut
import Derived.Carry
import Derived.Handed
import Derived.LaidLaws
import Derived.LaidHandle
import Derived.Stop.Joined
namespace Go.Sy
open Go Go.RowKit Go.ChangeShapes Go.WideShapes

/-! ### Flat types -/
inductive Kd where
  | b
  | i (k : IntKind)

def flatFs (P : Program) (rec : TypeId → Option (List Kd)) : List Field → Nat → Option (List Kd)
  | [], _ => some []
  | f :: fs, off => bif Nat.beq f.offset off then match rec f.type with
      | some ks => bif Nat.beq ks.length (P.cellsOf f.type) then match flatFs P rec fs (off + ks.length) with
          | some r => some (ks ++ r)
          | none => none
        else none
      | none => none
    else none

def repK (ks : List Kd) : Nat → List Kd
  | 0 => []
  | n + 1 => ks ++ repK ks n

def flatK (P : Program) : Nat → TypeId → Option (List Kd)
  | 0, _ => none
  | n + 1, t => match P.underlying t with
    | some .bool => some [.b]
    | some (.int k) => some [.i k]
    | some (.struct fs) => match flatFs P (flatK P n) fs.toList 0 with
      | some ks => bif Nat.beq ks.length (P.cellsOf t) then some ks else none
      | none => none
    | some (.array m e) => match flatK P n e with
      | some ks => bif Nat.beq ks.length (P.cellsOf e) && Nat.beq (repK ks m).length (P.cellsOf t) then some (repK ks m) else none
      | none => none
    | _ => none

/-- Cells of just these kinds. -/
def CK : List Kd → List Cell → Prop
  | [], [] => True
  | .b :: ks, c :: cs => (∃ b, c = .v (.bool b)) ∧ CK ks cs
  | .i k :: ks, c :: cs => (if k.signed = true then ∃ n : Int, k.min ≤ n ∧ n ≤ k.max ∧ c = .v (.int k n) else ∃ x, c = .w k x) ∧ CK ks cs
  | _, _ => False

theorem CK_append : ∀ {ks ks' : List Kd} {cs cs' : List Cell}, CK ks cs → CK ks' cs' → CK (ks ++ ks') (cs ++ cs')
  | [], _, [], _, _, h => h
  | .b :: _, _, _ :: _, _, h, h' => ⟨h.1, CK_append h.2 h'⟩
  | .i _ :: _, _, _ :: _, _, h, h' => ⟨h.1, CK_append h.2 h'⟩
  | [], _, _ :: _, _, h, _ => h.elim
  | .b :: _, _, [], _, h, _ => h.elim
  | .i _ :: _, _, [], _, h, _ => h.elim

theorem CK_length : ∀ {ks : List Kd} {cs : List Cell}, CK ks cs → cs.length = ks.length
  | [], [], _ => rfl
  | .b :: _, _ :: _, h => by simp [CK_length h.2]
  | .i _ :: _, _ :: _, h => by simp [CK_length h.2]
  | [], _ :: _, h => h.elim
  | .b :: _, [], h => h.elim
  | .i _ :: _, [], h => h.elim

/-- Values that are cells of these kinds. -/
def VK (ks : List Kd) (vs : List Value) : Prop := ∃ cs, CK ks cs ∧ ∀ r, denCells r cs = vs

theorem VK_append {ks ks' : List Kd} {vs vs' : List Value} (h : VK ks vs) (h' : VK ks' vs') : VK (ks ++ ks') (vs ++ vs') := by
  obtain ⟨cs, h1, h2⟩ := h
  obtain ⟨cs', h1', h2'⟩ := h'
  exact ⟨cs ++ cs', CK_append h1 h1', fun r => by rw [denCells_append, h2, h2']⟩

theorem VK_length {ks : List Kd} {vs : List Value} (h : VK ks vs) : vs.length = ks.length := by
  obtain ⟨cs, h1, h2⟩ := h
  rw [← h2 (fun _ => (0, 0)), denCells_length, CK_length h1]

section
variable {H : Type} {enc : TypeId × Value → H} {P : Program} {w : World} {base : Nat} {spare : Nat → Bool} {held : Bool}

theorem VK_int {k : IntKind} {n : Int} (hw : (Lit.int k n).wf = true) : VK [.i k] [.int k n] := by
  simp only [Lit.wf, Bool.and_eq_true, decide_eq_true_eq] at hw
  cases hs : k.signed with
  | true => exact ⟨[.v (.int k n)], ⟨by rw [if_pos hs]; exact ⟨n, hw.1, hw.2, rfl⟩, trivial⟩, fun _ => rfl⟩
  | false =>
    have h0 : 0 ≤ n := by have := hw.1; unfold IntKind.min at this; rw [if_neg (by simp [hs])] at this; exact this
    have h1 : n < 2 ^ k.bits := by have := hw.2; unfold IntKind.max at this; rw [if_neg (by simp [hs])] at this; omega
    obtain ⟨m, rfl⟩ := Int.eq_ofNat_of_zero_le h0
    have h2 : m < 2 ^ k.bits := by
      have e : ((2 : Int) ^ k.bits) = ((2 ^ k.bits : Nat) : Int) := by simp
      rw [e] at h1; exact_mod_cast h1
    refine ⟨[.w k (BitVec.ofNat k.bits m)], ⟨by rw [if_neg (by simp [hs])]; exact ⟨_, rfl⟩, trivial⟩, fun _ => ?_⟩
    simp only [denCells, Cell.den, BitVec.toNat_ofNat, Nat.mod_eq_of_lt h2]

theorem take_drop_split {α : Type} (l : List α) (off n : Nat) : l.drop off = (l.drop off).take n ++ l.drop (off + n) := by
  rw [← List.drop_drop, List.take_append_drop]

theorem flatFs_spec {rec : TypeId → Option (List Kd)} {cs : List Value} {g : Field → Prop} (hrec : ∀ (f : Field) (ks : List Kd), g f → rec f.type = some ks → VK ks ((cs.drop f.offset).take (P.cellsOf f.type))) :
    ∀ (fs : List Field) (off : Nat) (ks : List Kd), (∀ f ∈ fs, g f) → flatFs P rec fs off = some ks → cs.length = off + ks.length → VK ks (cs.drop off)
  | [], off, ks, _, h, hl => by
    simp [flatFs] at h; subst h
    refine ⟨[], trivial, fun _ => ?_⟩
    simp at hl
    rw [List.drop_eq_nil_of_le (by omega)]; rfl
  | f :: fs, off, ks, hg, h, hl => by
    simp only [flatFs] at h
    cases ho : Nat.beq f.offset off with
    | false => rw [ho] at h; cases h
    | true =>
      rw [ho] at h
      simp only [cond_true] at h
      have hoff : f.offset = off := Nat.eq_of_beq_eq_true ho
      split at h
      · rename_i k1 hk1
        cases hb : Nat.beq k1.length (P.cellsOf f.type) with
        | false => rw [hb] at h; cases h
        | true =>
          rw [hb] at h
          simp only [cond_true] at h
          have hlen : k1.length = P.cellsOf f.type := Nat.eq_of_beq_eq_true hb
          split at h
          · rename_i r hr
            injection h with h; subst h
            have h1 := hrec f k1 (hg f List.mem_cons_self) hk1
            rw [hoff, ← hlen] at h1
            have h2 := flatFs_spec hrec fs (off + k1.length) r (fun x hx => hg x (List.mem_cons_of_mem _ hx)) hr (by simp at hl; omega)
            rw [take_drop_split cs off k1.length]
            exact VK_append h1 h2
          · cases h
      · cases h

theorem repK_spec {ks : List Kd} {cs : List Value} {e : Nat} (he : ks.length = e) : ∀ (m k : Nat), (∀ i, i < m → VK ks ((cs.drop ((k + i) * e)).take e)) → cs.length = (k + m) * e → VK (repK ks m) (cs.drop (k * e))
  | 0, k, _, hl => ⟨[], trivial, fun _ => by rw [List.drop_eq_nil_of_le (by simp at hl; omega)]; rfl⟩
  | m + 1, k, h, hl => by
    have h1 := h 0 (by omega)
    rw [Nat.add_zero] at h1
    have h2 := repK_spec he m (k + 1) (fun i hi => by have := h (i + 1) (by omega); rwa [show k + (i + 1) = k + 1 + i by omega] at this) (by rw [hl]; congr 1; omega)
    rw [take_drop_split cs (k * e) e]
    have e2 : (k + 1) * e = k * e + e := by rw [Nat.add_mul, Nat.one_mul]
    rw [e2] at h2
    exact VK_append h1 h2

theorem trod_flat : ∀ (n fuel : Nat) (t : TypeId) (cs : List Value) (x : DataW H × List MemPlace) (ks : List Kd), flatK P n t = some ks → DataW.trod enc P w base spare held fuel t cs = some x → VK ks cs
  | 0, _, _, _, _, _, h, _ => by cases h
  | n + 1, fuel, t, cs, x, ks, h, ht => by
    simp only [flatK] at h
    split at h
    · rename_i hu
      injection h with h; subst h
      obtain ⟨b, rfl, _⟩ := DataW.trod_bool hu ht
      exact ⟨[.v (.bool b)], ⟨⟨b, rfl⟩, trivial⟩, fun _ => rfl⟩
    · rename_i k hu
      injection h with h; subst h
      obtain ⟨m, rfl, _, hw⟩ := DataW.trod_int hu ht
      exact VK_int hw
    · rename_i fs hu
      split at h
      · rename_i k1 hk1
        cases hb : Nat.beq k1.length (P.cellsOf t) with
        | false => rw [hb] at h; cases h
        | true =>
          rw [hb] at h
          simp only [cond_true, Option.some.injEq] at h; subst h
          obtain ⟨xs, m, rfl, _, hl, hxl, hf⟩ := DataW.trod_struct hu ht
          have := flatFs_spec (P := P) (rec := flatK P n) (cs := cs) (g := fun f => f ∈ fs.toList) (fun f k2 hfm hk2 => by
            obtain ⟨i, hi⟩ := List.mem_iff_getElem?.1 hfm
            have hi' : fs[i]? = some f := by rw [← Array.getElem?_toList]; exact hi
            have h3 := hf i f hi'
            have hlt : i < xs.length := by have := (Array.getElem?_eq_some_iff.1 hi').1; omega
            rw [List.getElem?_eq_getElem hlt] at h3
            exact trod_flat n m f.type _ _ k2 hk2 h3) fs.toList 0 k1 (fun f hf => hf) hk1 (by rw [hl, Nat.zero_add]; exact (Nat.eq_of_beq_eq_true hb).symm)
          simpa using this
      · cases h
    · rename_i m e hu
      split at h
      · rename_i k1 hk1
        cases hb : (Nat.beq k1.length (P.cellsOf e) && Nat.beq (repK k1 m).length (P.cellsOf t)) with
        | false => rw [hb] at h; cases h
        | true =>
          rw [hb] at h
          simp only [cond_true, Option.some.injEq] at h; subst h
          simp only [Bool.and_eq_true] at hb
          have hlen : k1.length = P.cellsOf e := Nat.eq_of_beq_eq_true hb.1
          obtain ⟨xs, q, rfl, _, hl, hxl, hf⟩ := DataW.trod_array hu ht
          have hrl : (repK k1 m).length = m * k1.length := by
            clear hb hk1 hu ht hf hl hxl
            induction m with
            | zero => simp [repK]
            | succ m ih => simp [repK, ih, Nat.add_mul]; omega
          have := repK_spec (cs := cs) hlen m 0 (fun i hi => by
            rw [Nat.zero_add]
            have h3 := hf i hi
            rw [List.getElem?_eq_getElem (by omega)] at h3
            exact trod_flat n q e _ _ k1 hk1 h3) (by rw [hl, ← Nat.eq_of_beq_eq_true hb.2, hrl, hlen, Nat.zero_add])
          simpa using this
      · cases h
    · cases h

/-- A parameter of a flat type that is a struct or an array. -/
theorem flat_agg {W : World} {t : TypeId} {v : Value} {d : DataW H} {p : List MemPlace} {ks : List Kd} (n : Nat) (hk : flatK P n t = some ks) (hs : (match P.underlying t with | some (.struct _) => true | some (.array _ _) => true | _ => false) = true)
    {r : Reach} {b0 : Nat} (hv : Value.okWide P W r b0 t v) (h : DataW.Trod enc P w base spare held t v d p) : ∃ cs, CK ks cs ∧ ∀ r, v = (AV.p (.many cs)).den r := by
  obtain ⟨fuel, hf⟩ := h
  have hv' : ∃ cs, v = .agg cs := by
    unfold Value.okWide at hv
    split at hv
    · obtain ⟨cs, rfl, _⟩ := hv; exact ⟨cs, rfl⟩
    · obtain ⟨cs, rfl, _⟩ := hv; exact ⟨cs, rfl⟩
    · rename_i hne1 hne2
      split at hs
      · rename_i e; exact absurd e (hne1 _)
      · rename_i e; exact absurd e (hne2 _ _)
      · cases hs
  obtain ⟨cs, rfl⟩ := hv'
  obtain ⟨l, h1, h2⟩ := trod_flat n fuel t _ _ ks hk hf
  refine ⟨l, h1, fun r => ?_⟩
  simp only [AV.den, Part.den, h2 r, Value.cells]

/-- A parameter that is a number or a bool. -/
theorem flat_one {W : World} {t : TypeId} {v : Value} {d : DataW H} {p : List MemPlace} {k : Kd} (n : Nat) (hk : flatK P n t = some [k]) (hs : (match P.underlying t with | some (.int _) => true | some .bool => true | _ => false) = true)
    {r : Reach} {b0 : Nat} (hv : Value.okWide P W r b0 t v) (h : DataW.Trod enc P w base spare held t v d p) : ∃ c, CK [k] [c] ∧ ∀ r, v = (AV.p (.one c)).den r := by
  obtain ⟨fuel, hf⟩ := h
  obtain ⟨l, h1, h2⟩ := trod_flat n fuel t _ _ [k] hk hf
  have hlen := CK_length h1
  match l, hlen with
  | [c], _ =>
    refine ⟨c, h1, fun r => ?_⟩
    have h3 := h2 r
    simp only [denCells] at h3
    have hv' : v.cells = #[v] := by
      unfold Value.okWide at hv
      split at hv
      · rename_i hu; rw [hu] at hs; cases hs
      · rename_i hu; rw [hu] at hs; cases hs
      · cases v <;> first | rfl | skip
        rename_i cs
        simp only [Cell.okWide] at hv
        exfalso
        split at hs
        · rename_i e; simp [e, Go.Cell.ok] at hv
        · rename_i e; simp [e, Go.Cell.ok] at hv
        · cases hs
    rw [hv'] at h3
    simp only [AV.den, Part.den]
    simpa using h3.symm
end

/-! ### A law's statement -/
section
variable {H : Type} {enc : TypeId × Value → H} {P : Program}

theorem trodAll_below (hl : laidOutB P = true) {W W' : World} (hb : Below W.heap.size W W') : ∀ (ts : List TypeId) (vs : List Value) (ds : List (DataW H)) (ps : List MemPlace),
    (∀ t ∈ ts, P.readableRec t = true ∧ t < P.types.size) → DataW.TrodAll enc P W 0 (fun _ => true) true ts vs ds ps → (∀ x ∈ ps, x.block < W.heap.size) →
    DataW.TrodAll enc P W' 0 (fun b => decide (b < W.heap.size)) true ts vs ds ps
  | [], vs, ds, ps, _, h, _ => by
    obtain ⟨rfl, rfl, rfl⟩ := trodAll_nil h
    rfl
  | t :: ts, vs, ds, ps, ht, h, hp => by
    obtain ⟨v, vs', d, ds', p, q, rfl, rfl, rfl, h1, h2⟩ := trodAll_cons h
    exact ⟨p, q, Below.trod hl (ht t List.mem_cons_self).1 (ht t List.mem_cons_self).2 h1 hb (fun x hx => hp x (List.mem_append_left _ hx)),
      trodAll_below hl hb ts vs' ds' q (fun x hx => ht x (List.mem_cons_of_mem _ hx)) h2 (fun x hx => hp x (List.mem_append_right _ hx)), rfl⟩
theorem trodAll_len {w : World} {base : Nat} {spare : Nat → Bool} {held : Bool} : ∀ {ts : List TypeId} {vs : List Value} {ds : List (DataW H)} {ps : List MemPlace}, DataW.TrodAll enc P w base spare held ts vs ds ps → ds.length = ts.length
  | [], vs, ds, ps, h => by obtain ⟨_, rfl, _⟩ := trodAll_nil h; rfl
  | t :: ts, vs, ds, ps, h => by
    obtain ⟨v, vs', d, ds', p, q, rfl, rfl, rfl, h1, h2⟩ := trodAll_cons h
    simp [trodAll_len h2]

theorem law_post {fn : Func} {s : ChangeSpec} {tb : TypeId} (laid : laidOutB P = true) (hvars : s.vars = []) (hread : ∀ t ∈ fn.params.toList, P.readableRec t = true ∧ t < P.types.size)
    (hres : fn.resultTypes = #[tb]) (hb : P.underlying tb = some .bool) (hspec : ∀ ds : List (DataW H), ds.length = fn.params.size → s.fn H ds = { results := [.lit (.bool true)], args := ds })
    {W W' : World} {args : Array Value} {ds gs : List (DataW H)} {before : List MemPlace} (hW : DataW.Whole enc P fn.params.toList s.vars false W args.toList ds gs before) (hbel : Below W.heap.size W W') :
    s.post enc P fn false true false false W args (.bool true) W' := by
  have hlt := hW.lt
  have hW' := hW
  obtain ⟨p, q, hA, hV, rfl, hfz, hnd⟩ := hW
  rw [hvars] at hV
  obtain ⟨rfl, rfl⟩ := trodVars_none hV
  have hsp := hspec ds (by rw [trodAll_len hA]; simp)
  refine ⟨ds, [], p ++ [], [], p, [], hW', ?_, ?_, ?_, hbel.frame _, fun h => by cases h⟩
  · rw [List.append_nil, hsp, hres]
    exact trodAll_mk1 (shut_bool hb true)
  · rw [List.append_nil, hsp]
    exact trodAll_below laid hbel _ _ _ _ hread hA (fun x hx => hlt x (List.mem_append_left _ hx))
  · rw [List.append_nil, hsp, hvars]
    rfl

theorem law_lifted {C : Checked} {os : Os} {f : FuncId} {fn : Func} {s : ChangeSpec} {tb : TypeId} {conds : List PathCond} (own : ownKnob C.prog.godebug = none) (laid : laidOutB C.prog = true) (started : os.Started)
    (noInit : C.prog.inits.idxOf? f = none) (hfn : C.prog.funcs[f]? = some fn) (hvars : s.vars = []) (hread : ∀ t ∈ fn.params.toList, C.prog.readableRec t = true ∧ t < C.prog.types.size)
    (hres : fn.resultTypes = #[tb]) (hb : C.prog.underlying tb = some .bool) (hspec : ∀ ds : List (DataW H), ds.length = fn.params.size → s.fn H ds = { results := [.lit (.bool true)], args := ds })
    (witness : ∃ (w : World) (tape : Tape) (i : Input), w.os = os ∧ (w.forCall tape i).Shaped C.prog ∧ i.vars = [] ∧ Input.okWide C.prog (w.forCall tape i) .any w.heap.size f i ∧
      s.pre6 enc C.prog fn conds false (w.forCall tape i).memory i.args ∧ ({} : Assume).holds C.prog (lone (Frame.enter C.prog f i.args .normal) [] (w.forCall tape i)))
    (hcall : ∀ (W : World) (base : Nat) (args : Array Value) (ds : List (DataW H)) (before : List MemPlace),
      (∀ (j : Nat) t v, fn.params[j]? = some t → args[j]? = some v → Value.okWide C.prog W .any base t v) →
      DataW.TrodAll enc C.prog W 0 (fun _ => true) true fn.params.toList args.toList ds before →
      Calls C.prog f args W fun e W' => e = .returned (.bool true) ∧ Below W.heap.size W W') :
    ReturnsInHanded {} C os f .any (s.pre6 enc C.prog fn conds false) (s.post enc C.prog fn false true false false) := by
  refine returnsInHanded_of_change own started noInit hfn witness ?_
  intro W base args ds gs before hval hW _ _
  have hW' := hW
  obtain ⟨p, q, hA, _⟩ := hW
  refine (hcall W base args ds p hval hA).mono ?_
  rintro e W' ⟨rfl, hbel⟩
  exact ⟨_, rfl, law_post laid hvars hread hres hb hspec hW' hbel⟩

/-- A call whose arguments name no object, out of its evaluation. -/
theorem calls_of_flat {K : Know} {T : FuncId → Option Summ} (hT : TOk K P T) (hm : P.follows .mixedOrders = true) {f : FuncId} {fn : Func} {c : Code} (hf : P.funcs[f]? = some fn) (hb : fn.body = some c)
    (fuel : Nat) {args : List AV} {v : AV} (h : (evalFn P T fuel fn c args []).run = some (v, [])) (ha : ∀ a ∈ args, a.lt 0) (W : World) (hk : K.ok W) :
    Calls P f (args.map (AV.den fun _ => (0, 0))).toArray W fun e W' => e = .returned (v.den fun _ => (0, 0)) ∧ Below W.heap.size W W' :=
  (evalFn_calls hT hm hf hb (r := fun _ => (0, 0)) (w := W) h ha (fun l hl => by cases hl) (fun j l hj => by simp at hj) (fun j j' l l' i i' hj => by simp at hj) hk (fun b o _ ⟨j, l, i, hj, _⟩ => by simp at hj)).mono
    fun e W' ⟨h1, _, h3, _⟩ => ⟨h1, h3.below fun b o ⟨j, l, i, hj, _⟩ => by simp at hj⟩

end

theorem summ_of {K : Know} {P : Program} {T : FuncId → Option Summ} (hT : TOk K P T) (hm : P.follows .mixedOrders = true) {f : FuncId} {fn : Func} {c : Code} (hf : P.funcs[f]? = some fn)
    (hn : (fn.name == "runtime.NumGoroutine") = false) (hb : fn.body = some c) (fuel : Nat) {ptrs : List Nat} {g : List AV → Hp → Option (AV × Hp)}
    (h : ∀ args H v H', g args H = some (v, H') → (evalFn P T fuel fn c args H).run = some (v, H')) : SummOk K P f (sm ptrs g) := summ_of_eval hT hm hf hn hb fuel (fun args H v H' hg _ => h args H v H' hg)

theorem summ_ofL {K : Know} {P : Program} {T : FuncId → Option Summ} (hT : TOk K P T) (hm : P.follows .mixedOrders = true) {f : FuncId} {fn : Func} {c : Code} (hf : P.funcs[f]? = some fn)
    (hn : (fn.name == "runtime.NumGoroutine") = false) (hb : fn.body = some c) (fuel : Nat) {L : LT} (hL : LOk P T fn.ntmps fuel L c) {ptrs : List Nat} {g : List AV → Hp → Option (AV × Hp)}
    (h : ∀ args H v H', g args H = some (v, H') → (evalFnL P T fuel L fn c args H).run = some (v, H')) : SummOk K P f (sm ptrs g) := summ_of_evalL hT hm hf hn hb fuel hL (fun args H v H' hg _ => h args H v H' hg)

/-! ### All parameters flat -/
inductive Sh where
  | one (k : Kd)
  | many (ks : List Kd)

def shK (P : Program) (n : Nat) (t : TypeId) : Option Sh := match P.underlying t with
  | some .bool => some (.one .b)
  | some (.int k) => some (.one (.i k))
  | some (.struct _) => (flatK P n t).map .many
  | some (.array _ _) => (flatK P n t).map .many
  | _ => none

def shAll (P : Program) (n : Nat) : List TypeId → Option (List Sh)
  | [] => some []
  | t :: ts => match shK P n t with
    | some x => match shAll P n ts with
      | some xs => some (x :: xs)
      | none => none
    | none => none

def FA : List Sh → List AV → Prop
  | [], [] => True
  | .one k :: sh, a :: as => (∃ c, CK [k] [c] ∧ a = .p (.one c)) ∧ FA sh as
  | .many ks :: sh, a :: as => (∃ cs, CK ks cs ∧ a = .p (.many cs)) ∧ FA sh as
  | _, _ => False

theorem CK_u {k : IntKind} {ks : List Kd} {l : List Cell} (hs : k.signed = false) (h : CK (.i k :: ks) l) : ∃ x l', l = .w k x :: l' ∧ CK ks l' := by
  match l, h with
  | c :: l', h =>
    obtain ⟨h1, h2⟩ := h
    rw [if_neg (by simp [hs])] at h1
    obtain ⟨x, rfl⟩ := h1
    exact ⟨x, l', rfl, h2⟩
theorem CK_s {k : IntKind} {ks : List Kd} {l : List Cell} (hs : k.signed = true) (h : CK (.i k :: ks) l) : ∃ (n : Int) (l' : List Cell), l = .v (.int k n) :: l' ∧ k.min ≤ n ∧ n ≤ k.max ∧ CK ks l' := by
  match l, h with
  | c :: l', h =>
    obtain ⟨h1, h2⟩ := h
    rw [if_pos hs] at h1
    obtain ⟨n, h3, h4, rfl⟩ := h1
    exact ⟨n, l', rfl, h3, h4, h2⟩
theorem CK_b {ks : List Kd} {l : List Cell} (h : CK (.b :: ks) l) : ∃ (b : Bool) (l' : List Cell), l = .v (.bool b) :: l' ∧ CK ks l' := by
  match l, h with
  | c :: l', h =>
    obtain ⟨⟨b, rfl⟩, h2⟩ := h
    exact ⟨b, l', rfl, h2⟩
theorem CK_nil {l : List Cell} (h : CK [] l) : l = [] := by
  match l, h with
  | [], _ => rfl
theorem FA_many {ks : List Kd} {sh : List Sh} {l : List AV} (h : FA (.many ks :: sh) l) : ∃ cs l', l = .p (.many cs) :: l' ∧ CK ks cs ∧ FA sh l' := by
  match l, h with
  | a :: l', h =>
    obtain ⟨⟨cs, h1, rfl⟩, h2⟩ := h
    exact ⟨cs, l', rfl, h1, h2⟩
theorem FA_one {k : Kd} {sh : List Sh} {l : List AV} (h : FA (.one k :: sh) l) : ∃ c l', l = .p (.one c) :: l' ∧ CK [k] [c] ∧ FA sh l' := by
  match l, h with
  | a :: l', h =>
    obtain ⟨⟨c, h1, rfl⟩, h2⟩ := h
    exact ⟨c, l', rfl, h1, h2⟩
theorem FA_nil {l : List AV} (h : FA [] l) : l = [] := by
  match l, h with
  | [], _ => rfl
theorem CK1_u {k : IntKind} {c : Cell} (hs : k.signed = false) (h : CK [.i k] [c]) : ∃ x, c = .w k x := by
  obtain ⟨x, l, h1, _⟩ := CK_u hs h
  cases h1; exact ⟨x, rfl⟩
theorem CK1_s {k : IntKind} {c : Cell} (hs : k.signed = true) (h : CK [.i k] [c]) : ∃ n : Int, c = .v (.int k n) ∧ k.min ≤ n ∧ n ≤ k.max := by
  obtain ⟨n, l, h1, h2, h3, _⟩ := CK_s hs h
  cases h1; exact ⟨n, rfl, h2, h3⟩
theorem CK1_b {c : Cell} (h : CK [.b] [c]) : ∃ b : Bool, c = .v (.bool b) := by
  obtain ⟨b, l, h1, _⟩ := CK_b h
  cases h1; exact ⟨b, rfl⟩

theorem CK_lt : ∀ {ks : List Kd} {cs : List Cell}, CK ks cs → ∀ c ∈ cs, c.lt 0
  | [], [], _, _, hc => by cases hc
  | .b :: _, _ :: _, h, c, hc => by
    rcases List.mem_cons.1 hc with rfl | hc
    · obtain ⟨⟨b, rfl⟩, _⟩ := h; trivial
    · exact CK_lt h.2 c hc
  | .i k :: _, _ :: _, h, c, hc => by
    rcases List.mem_cons.1 hc with rfl | hc
    · have h1 := h.1
      split at h1
      · obtain ⟨n, _, _, rfl⟩ := h1; trivial
      · obtain ⟨x, rfl⟩ := h1; trivial
    · exact CK_lt h.2 c hc
  | [], _ :: _, h, _, _ => h.elim
  | .b :: _, [], h, _, _ => h.elim
  | .i _ :: _, [], h, _, _ => h.elim
theorem FA_lt : ∀ {sh : List Sh} {l : List AV}, FA sh l → ∀ a ∈ l, a.lt 0
  | [], [], _, _, hc => by cases hc
  | .one k :: _, _ :: _, h, c, hc => by
    rcases List.mem_cons.1 hc with rfl | hc
    · obtain ⟨⟨c, h1, rfl⟩, _⟩ := h; exact CK_lt h1 c List.mem_cons_self
    · exact FA_lt h.2 c hc
  | .many k :: _, _ :: _, h, c, hc => by
    rcases List.mem_cons.1 hc with rfl | hc
    · obtain ⟨⟨c, h1, rfl⟩, _⟩ := h; exact CK_lt h1
    · exact FA_lt h.2 c hc
  | [], _ :: _, h, _, _ => h.elim
  | .one _ :: _, [], h, _, _ => h.elim
  | .many _ :: _, [], h, _, _ => h.elim

theorem flat_all {H : Type} {enc : TypeId × Value → H} {P : Program} {W : World} {base : Nat} {n : Nat} : ∀ (ts : List TypeId) (vs : List Value) (ds : List (DataW H)) (ps : List MemPlace) (sh : List Sh), shAll P n ts = some sh →
    (∀ (j : Nat) t v, ts[j]? = some t → vs[j]? = some v → Value.okWide P W .any base t v) → DataW.TrodAll enc P W 0 (fun _ => true) true ts vs ds ps → ∃ l, FA sh l ∧ vs = l.map (AV.den fun _ => (0, 0))
  | [], vs, ds, ps, sh, hs, _, h => by
    simp only [shAll, Option.some.injEq] at hs; subst hs
    obtain ⟨rfl, _⟩ := trodAll_nil h
    exact ⟨[], trivial, rfl⟩
  | t :: ts, vs, ds, ps, sh, hs, hv, h => by
    obtain ⟨v, vs', d, ds', p, q, rfl, rfl, rfl, h1, h2⟩ := trodAll_cons h
    simp only [shAll] at hs
    split at hs
    · rename_i x hx
      split at hs
      · rename_i xs hxs
        injection hs with hs; subst hs
        obtain ⟨l, hl, rfl⟩ := flat_all ts vs' ds' q xs hxs (fun j t' v' ht' hv' => hv (j + 1) t' v' (by simpa using ht') (by simpa using hv')) h2
        have hv0 := hv 0 t v rfl rfl
        unfold shK at hx
        split at hx
        · rename_i hu
          injection hx with hx; subst hx
          obtain ⟨c, c1, c2⟩ := flat_one (k := .b) 1 (by simp [flatK, hu]) (by simp [hu]) hv0 h1
          exact ⟨.p (.one c) :: l, ⟨⟨c, c1, rfl⟩, hl⟩, by simp only [List.map_cons, c2 fun _ => (0, 0)]⟩
        · rename_i k hu
          injection hx with hx; subst hx
          obtain ⟨c, c1, c2⟩ := flat_one (k := .i k) 1 (by simp [flatK, hu]) (by simp [hu]) hv0 h1
          exact ⟨.p (.one c) :: l, ⟨⟨c, c1, rfl⟩, hl⟩, by simp only [List.map_cons, c2 fun _ => (0, 0)]⟩
        · rename_i hu
          cases hk : flatK P n t with
          | none => rw [hk] at hx; cases hx
          | some ks =>
            rw [hk] at hx
            simp only [Option.map_some, Option.some.injEq] at hx; subst hx
            obtain ⟨c, c1, c2⟩ := flat_agg n hk (by simp [hu]) hv0 h1
            exact ⟨.p (.many c) :: l, ⟨⟨c, c1, rfl⟩, hl⟩, by simp only [List.map_cons, c2 fun _ => (0, 0)]⟩
        · rename_i hu
          cases hk : flatK P n t with
          | none => rw [hk] at hx; cases hx
          | some ks =>
            rw [hk] at hx
            simp only [Option.map_some, Option.some.injEq] at hx; subst hx
            obtain ⟨c, c1, c2⟩ := flat_agg n hk (by simp [hu]) hv0 h1
            exact ⟨.p (.many c) :: l, ⟨⟨c, c1, rfl⟩, hl⟩, by simp only [List.map_cons, c2 fun _ => (0, 0)]⟩
        · cases hx
      · cases hs
    · cases hs

/-- A law of flat parameters, out of its evaluation. -/
theorem law_flat {K : Know} {H : Type} {enc : TypeId × Value → H} {P : Program} {T : FuncId → Option Summ} (hT : TOk K P T) (hm : P.follows .mixedOrders = true) {f : FuncId} {fn : Func} {c : Code} (hf : P.funcs[f]? = some fn) (hb : fn.body = some c)
    (fuel n : Nat) {sh : List Sh} (hsh : shAll P n fn.params.toList = some sh) (hev : ∀ l, FA sh l → (evalFn P T fuel fn c l []).run = some (AV.b true, []))
    (W : World) (hk : K.ok W) (base : Nat) (args : Array Value) (ds : List (DataW H)) (before : List MemPlace) (hval : ∀ (j : Nat) t v, fn.params[j]? = some t → args[j]? = some v → Value.okWide P W .any base t v)
    (h : DataW.TrodAll enc P W 0 (fun _ => true) true fn.params.toList args.toList ds before) : Calls P f args W fun e W' => e = .returned (.bool true) ∧ Below W.heap.size W W' := by
  obtain ⟨l, hl, he⟩ := flat_all _ _ _ _ sh hsh (fun j t v ht hv => hval j t v (by rw [← Array.getElem?_toList]; exact ht) (by rw [← Array.getElem?_toList]; exact hv)) h
  have ha : args = (l.map (AV.den fun _ => (0, 0))).toArray := by rw [← he]
  rw [ha]
  exact (calls_of_flat hT hm hf hb fuel (hev l hl) (FA_lt hl) W hk).mono fun e W' h' => h'

/-! ### Rows with laid variables -/
theorem law_lifted_laid {H : Type} {enc : TypeId × Value → H} {C : Checked} {os : Os} {f : FuncId} {fn : Func} {s : ChangeSpec} {tb : TypeId} {conds : List PathCond} {laid : List (String × DataW Unit)} {K : Know} (own : ownKnob C.prog.godebug = none) (laidOut : laidOutB C.prog = true) (started : os.Started)
    (noInit : C.prog.inits.idxOf? f = none) (hfn : C.prog.funcs[f]? = some fn) (hvars : s.vars = []) (hread : ∀ t ∈ fn.params.toList, C.prog.readableRec t = true ∧ t < C.prog.types.size)
    (hres : fn.resultTypes = #[tb]) (hb : C.prog.underlying tb = some .bool) (hspec : ∀ ds : List (DataW H), ds.length = fn.params.size → s.fn H ds = { results := [.lit (.bool true)], args := ds })
    (hK : ∀ W, laidMetH C.prog laid W → K.ok W)
    (witness : ∃ (w : World) (tape : Tape) (i : Input), w.os = os ∧ (w.forCall tape i).Shaped C.prog ∧ i.vars = [] ∧ Input.okWide C.prog (w.forCall tape i) .any w.heap.size f i ∧
      ((s.pre enc C.prog fn conds false (w.forCall tape i).memory i.args ∧ laidMetH C.prog laid (w.forCall tape i).memory) ∧ sizedMet enc C.prog fn (OpenSpec.ofChange s) false (w.forCall tape i).memory i.args) ∧ ({} : Assume).holds C.prog (lone (Frame.enter C.prog f i.args .normal) [] (w.forCall tape i)))
    (hcall : ∀ (W : World), K.ok W → ∀ (base : Nat) (args : Array Value) (ds : List (DataW H)) (before : List MemPlace),
      (∀ (j : Nat) t v, fn.params[j]? = some t → args[j]? = some v → Value.okWide C.prog W .any base t v) →
      DataW.TrodAll enc C.prog W 0 (fun _ => true) true fn.params.toList args.toList ds before →
      Calls C.prog f args W fun e W' => e = .returned (.bool true) ∧ Below W.heap.size W W') :
    ReturnsInHanded {} C os f .any (fun w args => (s.pre enc C.prog fn conds false w args ∧ laidMetH C.prog laid w) ∧ sizedMet enc C.prog fn (OpenSpec.ofChange s) false w args) (s.post enc C.prog fn false true false false) := by
  refine returnsInHanded_of_change_and (X := fun w _ => laidMetH C.prog laid w) (fun _ _ _ hh h => laidMetH.of_heap hh h) own started noInit hfn witness ?_
  intro W base args ds gs before hval hW _ _ hL _
  have hW' := hW
  obtain ⟨p, q, hA, _⟩ := hW
  refine (hcall W (hK W hL) base args ds p hval hA).mono ?_
  rintro e W' ⟨rfl, hbel⟩
  exact ⟨_, rfl, law_post laidOut hvars hread hres hb hspec hW' hbel⟩

end Go.Sy
