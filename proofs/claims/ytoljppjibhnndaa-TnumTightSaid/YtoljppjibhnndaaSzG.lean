/-
  A symbolic machine for one call, with rows of any length: slicing, lengths, and all operations that turn nothing.
-/
import Derived.Test.YtoljppjibhnndaaSzF
namespace Go.Sz
open Go Go.RowKit Go.Sy
set_option linter.unusedVariables false
set_option linter.unusedSimpArgs false
set_option linter.constructorNameAsVariable false

/-! ### slice -/
/-- A part of a slice: from, to, the bound. -/
def cut {ts : Tys} (l : List ts.den) (lo hi : Nat) : List ts.den := (l.drop lo).take (hi - lo)

def mxOf : Option Int → Nat → Option Nat
  | none, _ => none
  | some _, m => some m

def sliceT (P : Program) (H : Hf) (t : TypeId) (c : Cell) (lo hi mx : Option Int) (gen : Tree Cell) : Tree Cell :=
  match P.underlying t with
  | some (.array n elem) => match pureSem P (sizeOf elem), c with
    | some sz, .p j off => (boundsA n n lo hi mx).bind fun q => .ret (.s j (bif Nat.beq q.2.2 q.1 then off else off + q.1 * sz) sz (q.2.1 - q.1) (q.2.2 - q.1))
    | _, _ => .fail
  | some (.slice elem) => match pureSem P (sizeOf elem), c with
    | some sz, .s j off _ n cap => (boundsA n cap lo hi mx).bind fun q => .ck (Nat.ble n cap) (.ret (.s j (bif Nat.beq q.2.2 q.1 then off else off + q.1 * sz) sz (q.2.1 - q.1) (q.2.2 - q.1)))
    | some sz, .d ts l => bif Nat.beq sz ts.len then (boundsA l.length l.length lo hi mx).bind fun q => .ret (.d ts (cut l q.1 q.2.1)) else .fail
    | some sz, .h j => match H j with
      | some (.row ts l) => bif Nat.beq sz ts.len then (boundsA l.length l.length lo hi mx).bind fun q => .ret (.hs j sz q.1 (q.2.1 - q.1) (mxOf mx q.2.2)) else .fail
      | some (.frz ts l) => bif Nat.beq sz ts.len then (boundsA l.length l.length lo hi mx).bind fun q => .ret (.d ts (cut l q.1 q.2.1)) else .fail
      | _ => .fail
    | _, _ => gen
  | some .string => match c, mx with
    | .v (.string s), none => (boundsA s.size s.size lo hi none).bind fun q => .ret (.v (.string (s.extract q.1 q.2.1)))
    | _, _ => .fail
  | _ => .fail

section
variable {P : Program} {F : Frag} {r : Loc} {D : Nat → Prop} {w : World} {H : Hf}

theorem sliceAt_slice {t elem : TypeId} {sz : Nat} (hu : P.underlying t = some (.slice elem)) (hs : pureSem P (sizeOf elem) = some sz) {a : Option Addr} {n cap : Nat} {lo hi mx : Option Value} {l h m : Nat} (w : World)
    (hb : (Instr.sliceBounds true n cap lo hi mx).run P w = .ok (l, h, m) w) : (Instr.sliceAt t (.slice a n cap) lo hi mx).run P w = .ok (.slice (if m = l then a else a.map (·.add (l * sz))) (h - l) (m - l)) w := by
  simp only [Instr.sliceAt, Instr.slice, Sem.run_bind, Sem.run_pure, Result.andThen_ok, run_underlying hu, hb, pureSem_run hs]

/-- A part of a slice that nobody writes. -/
theorem cut_rep {ts : Tys} {l : List ts.den} {a : Option Addr} {cap lo hi m : Nat} (hu : RepT F (.sl ts) l (.slice a l.length cap)) (h1 : lo ≤ hi) (h2 : hi ≤ l.length) (h3 : hi ≤ m) (h4 : m ≤ cap) :
    RepT F (.sl ts) (cut l lo hi) (.slice (if m = lo then a else a.map (·.add (lo * ts.len))) (hi - lo) (m - lo)) := by
  simp only [RepT] at hu ⊢
  obtain ⟨a', cap', e, g1, g2, g3⟩ := hu
  injection e with e1 _ e3
  subst e1 e3
  have hlen : (cut l lo hi).length = hi - lo := by simp [cut]; omega
  refine ⟨_, _, by rw [hlen], by rw [hlen]; omega, by omega, fun hne => ?_⟩
  have hlt : lo < hi := by
    rcases Nat.lt_or_ge lo hi with h | h
    · exact h
    · exact absurd (List.length_eq_zero_iff.1 (by rw [hlen]; omega)) hne
  obtain ⟨b, o, rfl, g4⟩ := g3 (fun e => by subst e; simp at h2; omega)
  refine ⟨b, o + lo * ts.len, by rw [if_neg (by omega)]; simp [Addr.add_mid], fun i x hx => ?_⟩
  have hx' : l[lo + i]? = some x := by
    unfold cut at hx
    rw [List.getElem?_take] at hx
    split at hx
    · rw [List.getElem?_drop] at hx; exact hx
    · cases hx
  have := g4 (lo + i) x hx'
  rw [Nat.add_mul, ← Nat.add_assoc] at this
  exact this

theorem subHdr_one {a : Option Addr} {n cap sz lo len : Nat} {mx : Option Nat} : (subHdr (.slice a n cap) sz lo len mx).oneCell' = true := rfl

theorem sliceT_run (hs : Sees F r D H w) {t : TypeId} {c c' : Cell} {lo hi mx : Option Int} {gen : Tree Cell} (h : (sliceT P H t c lo hi mx gen).run = some c') {u : Value} (hu : c.rep F r u) (hc : c.inn D) {lo' hi' mx' : Option Value}
    (hlo : valI lo lo') (hhi : valI hi hi') (hmx : valI mx mx') (hg : gen.run = some c' → ∃ v, (Instr.sliceAt t u lo' hi' mx').run P w = .ok v w ∧ c'.rep F r v ∧ c'.inn D) :
    ∃ v, (Instr.sliceAt t u lo' hi' mx').run P w = .ok v w ∧ c'.rep F r v ∧ c'.inn D := by
  have hadd : ∀ (b o l m sz : Nat), (if m = l then (⟨b, o, none⟩ : Addr) else Addr.add ⟨b, o, none⟩ (l * sz)) = ⟨b, bif Nat.beq m l then o else o + l * sz, none⟩ := fun b o l m sz => by
    by_cases e : m = l
    · subst e; simp
    · rw [if_neg e, Addr.add_mid]
      have : Nat.beq m l = false := by
        cases hh : Nat.beq m l with
        | false => rfl
        | true => exact absurd (Nat.eq_of_beq_eq_true hh) e
      rw [this]; rfl
  have hcond : ∀ (b : Bool) (x y z : Nat), x + (bif b then y else y + z) = bif b then x + y else x + y + z := fun b x y z => by cases b <;> simp [Nat.add_assoc]
  unfold sliceT at h
  split at h
  · rename_i n elem hut
    split at h
    · rename_i _ sz j off hsz
      obtain ⟨q, hq, h⟩ := Tree.run_bind_some h
      simp only [Tree.run, Option.some.injEq] at h; subst h
      obtain ⟨hb, q1, q2, q3, q4⟩ := boundsA_run (P := P) hq (Nat.le_refl _) (Nat.le_refl _) hlo hhi hmx false w
      have hm : (if mx.isSome then q.2.2 else n) = q.2.2 := by
        cases mx with
        | none => simp [q4 rfl]
        | some _ => rfl
      rw [hm] at hb
      refine ⟨_, ?_, rfl, hc⟩
      rw [show u = _ from hu]
      simp only [Instr.sliceAt, Instr.sureAddr, Sem.run_bind, Sem.run_pure, Result.andThen_ok, run_underlying hut, hb, pureSem_run hsz, hadd, hcond]
    · cases h
  · rename_i elem hut
    split at h
    · rename_i _ sz j off sz0 n cap hsz
      obtain ⟨q, hq, h⟩ := Tree.run_bind_some h
      obtain ⟨hck, h⟩ := Tree.run_ck h
      simp only [Tree.run, Option.some.injEq] at h; subst h
      obtain ⟨hb, q1, q2, q3, q4⟩ := boundsA_run (P := P) hq (Nat.le_refl _) (Nat.le_of_ble_eq_true hck) hlo hhi hmx true w
      have hm : (if mx.isSome then q.2.2 else cap) = q.2.2 := by
        cases mx with
        | none => simp [q4 rfl]
        | some _ => rfl
      rw [hm] at hb
      refine ⟨_, ?_, rfl, hc⟩
      rw [show u = _ from hu, sliceAt_slice hut hsz w hb]
      have := hadd (r j).b ((r j).o + off) q.1 q.2.2 sz
      rw [← hcond, ] at this
      congr 2
      by_cases e : q.2.2 = q.1
      · rw [if_pos e] at this ⊢; rw [this]
      · rw [if_neg e] at this ⊢; rw [Option.map_some, this]
    · rename_i _ sz ts l hsz
      cases hbb : Nat.beq sz ts.len with
      | false => rw [hbb] at h; cases h
      | true =>
        rw [hbb] at h
        simp only [cond_true] at h
        obtain ⟨q, hq, h⟩ := Tree.run_bind_some h
        simp only [Tree.run, Option.some.injEq] at h; subst h
        have hu0 : RepT F (.sl ts) l u := hu
        have hu1 := hu0
        simp only [RepT] at hu1
        obtain ⟨a, cap, rfl, g1, g2, g3⟩ := hu1
        obtain ⟨hb, q1, q2, q3, q4⟩ := boundsA_run (P := P) hq g1 (Nat.le_refl _) hlo hhi hmx true w
        have e := Nat.eq_of_beq_eq_true hbb
        subst e
        refine ⟨_, sliceAt_slice hut hsz w hb, cut_rep hu0 q1 (by omega) ?_ ?_, trivial⟩
        · split <;> omega
        · split <;> omega
    · rename_i _ sz j hsz
      split at h
      · rename_i ts l hj
        cases hbb : Nat.beq sz ts.len with
        | false => rw [hbb] at h; cases h
        | true =>
          rw [hbb] at h
          simp only [cond_true] at h
          obtain ⟨q, hq, h⟩ := Tree.run_bind_some h
          simp only [Tree.run, Option.some.injEq] at h; subst h
          have main : ∀ (a : Option Addr) (cap : Nat), (r j).hv = .slice a l.length cap → l.length ≤ cap →
              ∃ v, (Instr.sliceAt t u lo' hi' mx').run P w = .ok v w ∧ (Cell.hs j sz q.1 (q.2.1 - q.1) (mxOf mx q.2.2)).rep F r v ∧ (Cell.hs j sz q.1 (q.2.1 - q.1) (mxOf mx q.2.2)).inn D := by
            intro a cap hhv hle
            obtain ⟨hb, q1, q2, q3, q4⟩ := boundsA_run (P := P) hq hle (Nat.le_refl _) hlo hhi hmx true w
            rw [hu.1, hhv]
            refine ⟨_, sliceAt_slice hut hsz w hb, ⟨?_, rfl⟩, hc⟩
            rw [hhv]
            cases mx <;> rfl
          rcases hs.obs j _ hj with ⟨h1, h2⟩ | ⟨cap, h1, h2, _⟩
          · exact main none 0 (by rw [h1, h2]; rfl) (by rw [h2]; simp)
          · exact main _ cap h1 h2
      · rename_i ts l hj
        cases hbb : Nat.beq sz ts.len with
        | false => rw [hbb] at h; cases h
        | true =>
          rw [hbb] at h
          simp only [cond_true] at h
          obtain ⟨q, hq, h⟩ := Tree.run_bind_some h
          simp only [Tree.run, Option.some.injEq] at h; subst h
          have hu0 : RepT F (.sl ts) l u := by rw [hu.1]; exact hs.obs j _ hj
          have hu1 := hu0
          simp only [RepT] at hu1
          obtain ⟨a, cap, rfl, g1, g2, g3⟩ := hu1
          obtain ⟨hb, q1, q2, q3, q4⟩ := boundsA_run (P := P) hq g1 (Nat.le_refl _) hlo hhi hmx true w
          have e := Nat.eq_of_beq_eq_true hbb
          subst e
          refine ⟨_, sliceAt_slice hut hsz w hb, cut_rep hu0 q1 (by omega) ?_ ?_, trivial⟩
          · split <;> omega
          · split <;> omega
      · cases h
    · exact hg h
  · rename_i hut
    split at h
    · rename_i _ s
      obtain ⟨q, hq, h⟩ := Tree.run_bind_some h
      simp only [Tree.run, Option.some.injEq] at h; subst h
      obtain ⟨hb, q1, q2, q3, q4⟩ := boundsA_run (P := P) hq (Nat.le_refl _) (Nat.le_refl _) hlo hhi (mx' := none) trivial false w
      rw [valI_none hmx, show u = _ from hu]
      refine ⟨.string (s.extract q.1 q.2.1), ?_, rfl, trivial⟩
      simp only [Instr.sliceAt, Instr.slice, Sem.run_bind, Sem.run_pure, Result.andThen_ok, run_underlying hut, hb, Option.isSome_none, Bool.false_eq_true, if_false]
    · cases h
  · cases h
end

/-! ### len, cap -/
def lenT (P : Program) (H : Hf) (b : Builtin) (ts : List TypeId) (c : Cell) (gen : Tree AV) : Tree AV :=
  match b, ts with
  | .len, t :: _ => match P.underlying t with
    | some (.slice _) => match c with
      | .d _ l => .ret (AV.c (.v (.int .i64 l.length)))
      | .h j => match H j with
        | some (.row _ l) => .ret (AV.c (.v (.int .i64 l.length)))
        | some (.frz _ l) => .ret (AV.c (.v (.int .i64 l.length)))
        | _ => .fail
      | .hs j _ _ n _ => match H j with
        | some (.row _ _) => .ret (AV.c (.v (.int .i64 n)))
        | _ => .fail
      | .s _ _ _ n _ => .ret (AV.c (.v (.int .i64 n)))
      | _ => gen
    | some (.map _ _) => match c with
      | .h j => match H j with
        | some (.mp _ _ m) => .ret (AV.c (.v (.int .i64 m.length)))
        | _ => .fail
      | _ => gen
    | _ => gen
  | .cap, t :: _ => match P.underlying t with
    | some (.slice _) => match c with
      | .s _ _ _ _ cap => .ret (AV.c (.v (.int .i64 cap)))
      | _ => gen
    | _ => gen
  | _, _ => gen

section
variable {P : Program} {F : Frag} {r : Loc} {D : Nat → Prop} {w : World} {H : Hf}

theorem entriesRep_length {kt : Ty} {vt : Vt} : ∀ {m : List (kt.den × vt.den)} {es : List MapEntry}, entriesRep F kt vt m es → es.length = m.length
  | [], [], _ => rfl
  | [], _ :: _, h => h.elim
  | _ :: _, [], h => h.elim
  | _ :: _, _ :: _, h => by simp [entriesRep_length h.2.2]

theorem lenT_run (hs : Sees F r D H w) {b : Builtin} {c : Cell} {ts : Array TypeId} {gen : Tree AV} {av : AV} (h : (lenT P H b ts.toList c gen).run = some av) {u : Value} (hu : c.rep F r u) (t : TypeId) (cs : Array Bool)
    (hg : gen.run = some av → Yn F r D w av ((builtin b ts t cs #[u]).run P w)) : Yn F r D w av ((builtin b ts t cs #[u]).run P w) := by
  have h1 : ∀ v : Value, (#[v] : Array Value)[0]? = some v := fun _ => rfl
  unfold lenT at h
  split at h
  · rename_i t1 l hl
    have h0 : ts[0]? = some t1 := by rw [← Array.getElem?_toList, hl]; rfl
    split at h
    · rename_i e hut
      have main : ∀ (a : Option Addr) (n cap : Nat), u = .slice a n cap → Yn F r D w (AV.c (.v (.int .i64 n))) ((builtin .len ts t cs #[u]).run P w) := fun a n cap e => Yn.v (by
        rw [e]
        simp only [builtin, Builtin.len_, h0, h1, Sem.run_bind, run_underlying hut, Result.andThen_ok, Sem.run_pure, goInt])
      split at h
      · rename_i ts' l'
        simp only [Tree.run, Option.some.injEq] at h; subst h
        have hu' : RepT F (.sl ts') l' u := hu
        simp only [RepT] at hu'
        obtain ⟨a, cap, e, _⟩ := hu'
        exact main _ _ _ e
      · rename_i j
        split at h
        · rename_i ts' l' hj
          simp only [Tree.run, Option.some.injEq] at h; subst h
          rcases hs.obs j _ hj with ⟨g1, g2⟩ | ⟨cap, g1, _⟩
          · exact main none _ 0 (by rw [hu.1, g1, g2]; rfl)
          · exact main _ _ cap (by rw [hu.1, g1])
        · rename_i ts' l' hj
          simp only [Tree.run, Option.some.injEq] at h; subst h
          have hu' : RepT F (.sl ts') l' u := by rw [hu.1]; exact hs.obs j _ hj
          simp only [RepT] at hu'
          obtain ⟨a, cap, e, _⟩ := hu'
          exact main _ _ _ e
        · cases h
      · rename_i j sz lo n mx
        split at h
        · rename_i ts' l' hj
          simp only [Tree.run, Option.some.injEq] at h; subst h
          rcases hs.obs j _ hj with ⟨g1, g2⟩ | ⟨cap, g1, _⟩
          · exact main _ _ _ (by rw [hu.1, g1]; rfl)
          · exact main _ _ _ (by rw [hu.1, g1]; rfl)
        · cases h
      · simp only [Tree.run, Option.some.injEq] at h; subst h
        exact main _ _ _ hu
      · exact hg h
    · rename_i k e hut
      split at h
      · rename_i j
        split at h
        · rename_i kt vt m hj
          simp only [Tree.run, Option.some.injEq] at h; subst h
          obtain ⟨g0, es, clock, g1, g2, _⟩ := hs.obs j _ hj
          have hlen := entriesRep_length g2
          refine Yn.v ?_
          rw [hu.1, g0]
          simp only [builtin, Builtin.len_, h0, h1, Sem.run_bind, run_underlying hut, Result.andThen_ok, Sem.run_pure, goInt, getObj, Sem.run, g1]
          rw [← hlen]; simp
        · cases h
      · exact hg h
    · exact hg h
  · rename_i t1 l hl
    have h0 : ts[0]? = some t1 := by rw [← Array.getElem?_toList, hl]; rfl
    split at h
    · rename_i e hut
      split at h
      · simp only [Tree.run, Option.some.injEq] at h; subst h
        refine Yn.v ?_
        rw [show u = _ from hu]
        simp only [builtin, Builtin.cap_, h0, h1, Sem.run_bind, run_underlying hut, Result.andThen_ok, Sem.run_pure, goInt]
      · exact hg h
    · exact hg h
  · exact hg h
end
end Go.Sz
