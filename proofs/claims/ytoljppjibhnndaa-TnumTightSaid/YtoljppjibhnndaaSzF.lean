/-
  A symbolic machine for one call, with rows of any length: indexing, slicing, lengths, and all operations that turn nothing.
-/
import Derived.Test.YtoljppjibhnndaaSzE
namespace Go.Sz
open Go Go.RowKit Go.Sy
set_option linter.unusedVariables false
set_option linter.unusedSimpArgs false
set_option linter.constructorNameAsVariable false

def dropQ : Nat → (ts : Tys) → ts.den → Cell
  | 0, ts, x => .q ts x
  | k + 1, .cons _ ts, x => dropQ k ts x.2
  | _ + 1, .nil, _ => .q .nil ()

theorem dropQ_rep {F : Frag} {r : Loc} : ∀ {k : Nat} {ts : Tys} {x : ts.den} {b o : Nat}, RepC F F b o ts x → (dropQ k ts x).rep F r (.pointer (some ⟨b, o + k, none⟩))
  | 0, ts, x, b, o, h => ⟨b, o, rfl, h⟩
  | k + 1, .cons t ts, x, b, o, h => by
    simp only [RepC] at h
    have := dropQ_rep (r := r) (k := k) h.2
    rw [show o + 1 + k = o + (k + 1) by omega] at this
    exact this
  | k + 1, .nil, x, b, o, h => ⟨b, _, rfl, by simp only [RepC]⟩
theorem dropQ_inn {D : Nat → Prop} : ∀ {k : Nat} {ts : Tys} {x : ts.den}, (dropQ k ts x).inn D
  | 0, ts, x => trivial
  | k + 1, .cons t ts, x => dropQ_inn (k := k)
  | k + 1, .nil, x => trivial

def mxGt (lo : Nat) : Option Nat → Bool
  | none => true
  | some m => Nat.blt lo m

def isConstO : Operand → Bool
  | .const _ => true
  | _ => false

def inB (i : Int) (n : Nat) : Bool := decide (0 ≤ i) && decide (i < (n : Int))

theorem inB_spec {i : Int} {n : Nat} (h : inB i n = true) : 0 ≤ i ∧ i < (n : Int) ∧ i.toNat < n := by
  unfold inB at h
  simp only [Bool.and_eq_true, decide_eq_true_eq] at h
  omega

def intOf : Cell → Option Int
  | .v (.int _ n) => some n
  | .w _ x => some (x.toNat : Int)
  | _ => none

/-! ### indexAddr -/
def idxAddrT (P : Program) (H : Hf) (t : TypeId) (c : Cell) (i : Int) (lit : Bool) : Tree Cell :=
  match P.underlying t with
  | some (.array len elem) => match pureSem P (sizeOf elem), c with
    | some sz, .p j off => .ck (inB i len) (bif lit then .ret (.p j (off + i.toNat * sz)) else .ret (.e j off len sz i.toNat 0))
    | some sz, .q ts x => bif lit then .ck (inB i len) (.ret (dropQ (i.toNat * sz) ts x)) else .fail
    | _, _ => .fail
  | some (.slice elem) => match pureSem P (sizeOf elem), c with
    | some sz, .d ts l => bif Nat.beq sz ts.len then .ck (inB i l.length) (.ret (.q ts (l.getD i.toNat ts.dflt))) else .fail
    | some sz, .h j => match H j with
      | some (.row ts l) => bif Nat.beq sz ts.len then .ck (inB i l.length) (.ret (.er j sz i.toNat 0)) else .fail
      | some (.frz ts l) => bif Nat.beq sz ts.len then .ck (inB i l.length) (.ret (.q ts (l.getD i.toNat ts.dflt))) else .fail
      | _ => .fail
    | some sz, .hs j sz' lo n mx => match H j with
      | some (.row ts l) => bif Nat.beq sz ts.len && Nat.beq sz' sz then .ck (inB i n && (Nat.ble (lo + n) l.length && mxGt lo mx)) (.ret (.er j sz (lo + i.toNat) 0)) else .fail
      | _ => .fail
    | some sz, .s j off sz' n cap => bif Nat.beq sz' sz then .ck (inB i n) (.ret (.e j off n sz i.toNat 0)) else .fail
    | _, _ => .fail
  | _ => .fail

section
variable {P : Program} {F : Frag} {r : Loc} {D : Nat → Prop} {w : World} {H : Hf}

theorem indexAt_slice {t elem : TypeId} {sz : Nat} (hu : P.underlying t = some (.slice elem)) (hs : pureSem P (sizeOf elem) = some sz) {i : Int} {n : Nat} (hi : 0 ≤ i ∧ i < (n : Int) ∧ i.toNat < n) (k : IntKind) (b o cap : Nat) :
    (Instr.indexAt t (.slice (some ⟨b, o, none⟩) n cap) (.int k i)).run P w = .ok (.pointer (some ⟨b, o + i.toNat * sz, none⟩)) w := by
  have h2 : 0 ≤ i ∧ i < (n : Int) := ⟨hi.1, hi.2.1⟩
  simp only [Instr.indexAt, asIntOf, Sem.run_bind, Sem.run_pure, Result.andThen_ok, run_underlying hu, if_pos h2, pureSem_run hs, Addr.add_mid]

theorem row_hdr {j : Nat} {ts : Tys} {l : List ts.den} (h : ObIs F r (r j) w (.row ts l)) {i : Nat} (hi : i < l.length) :
    ∃ cap, (r j).hv = .slice (some ⟨(r j).b, (r j).o, none⟩) l.length cap ∧ l.length ≤ cap ∧ cap ≤ maxLen ∧ w.there (r j).b (r j).o (cap * ts.len) ∧ ∀ i x, l[i]? = some x → RepC (memF w) F (r j).b ((r j).o + i * ts.len) ts x := by
  rcases h with ⟨_, h⟩ | h
  · subst h; simp at hi
  · exact h

/-- An element of a slice that nobody writes. -/
theorem elem_q {t elem : TypeId} {sz : Nat} (hut : P.underlying t = some (.slice elem)) (hsz : pureSem P (sizeOf elem) = some sz) {ts : Tys} {l : List ts.den} {u : Value} (hu : RepT F (.sl ts) l u) (e : sz = ts.len) {i : Int} (hi : 0 ≤ i ∧ i < (l.length : Int) ∧ i.toNat < l.length) (k : IntKind) :
    ∃ v, (Instr.indexAt t u (.int k i)).run P w = .ok v w ∧ (Cell.q ts (l.getD i.toNat ts.dflt)).rep F r v := by
  simp only [RepT] at hu
  obtain ⟨a, cap, rfl, h1, h2, h3⟩ := hu
  obtain ⟨b, o, rfl, h4⟩ := h3 (fun e => by subst e; simp at hi)
  refine ⟨_, indexAt_slice hut hsz hi k b o cap, b, _, rfl, ?_⟩
  rw [e]
  exact h4 i.toNat _ (getD_get hi.2.2 _)

theorem idxAddrT_run (hs : Sees F r D H w) {t : TypeId} {c c' : Cell} {i : Int} {lit : Bool} (h : (idxAddrT P H t c i lit).run = some c') {u : Value} (hu : c.rep F r u) (hc : c.inn D) (k : IntKind) :
    ∃ v, (Instr.indexAt t u (.int k i)).run P w = .ok v w ∧ c'.rep F r v ∧ c'.inn D := by
  unfold idxAddrT at h
  split at h
  · rename_i len elem hut
    have harr : ∀ (b o sz : Nat), pureSem P (sizeOf elem) = some sz → 0 ≤ i ∧ i < (len : Int) → (Instr.indexAt t (.pointer (some ⟨b, o, none⟩)) (.int k i)).run P w = .ok (.pointer (some ⟨b, o + i.toNat * sz, none⟩)) w := fun b o sz hsz h2 => by
      simp only [Instr.indexAt, Instr.sureAddr, asIntOf, Sem.run_bind, Sem.run_pure, Result.andThen_ok, run_underlying hut, if_pos h2, pureSem_run hsz, Addr.add_mid]
    split at h
    · rename_i _ sz j off hsz
      obtain ⟨hb, h⟩ := Tree.run_ck h
      have hi := inB_spec hb
      rw [show u = _ from hu]
      have hrun := harr (r j).b ((r j).o + off) sz hsz ⟨hi.1, hi.2.1⟩
      cases lit with
      | true =>
        simp only [cond_true, Tree.run, Option.some.injEq] at h; subst h
        exact ⟨_, hrun, by simp only [Cell.rep, Nat.add_assoc], hc⟩
      | false =>
        simp only [cond_false, Tree.run, Option.some.injEq] at h; subst h
        exact ⟨_, hrun, ⟨by simp only [Nat.add_assoc, Nat.add_zero], hi.2.2⟩, hc⟩
    · rename_i _ sz ts x hsz
      cases lit with
      | false => cases h
      | true =>
        simp only [cond_true] at h
        obtain ⟨hb, h⟩ := Tree.run_ck h
        have hi := inB_spec hb
        simp only [Tree.run, Option.some.injEq] at h; subst h
        obtain ⟨b, o, rfl, h1⟩ := hu
        exact ⟨_, harr b o sz hsz ⟨hi.1, hi.2.1⟩, dropQ_rep h1, dropQ_inn⟩
    · cases h
  · rename_i elem hut
    split at h
    · rename_i _ sz ts l hsz
      cases hb : Nat.beq sz ts.len with
      | false => rw [hb] at h; cases h
      | true =>
        rw [hb] at h
        simp only [cond_true] at h
        obtain ⟨hb2, h⟩ := Tree.run_ck h
        simp only [Tree.run, Option.some.injEq] at h; subst h
        obtain ⟨v, h1, h2⟩ := elem_q (r := r) (w := w) hut hsz hu (Nat.eq_of_beq_eq_true hb) (inB_spec hb2) k
        exact ⟨v, h1, h2, trivial⟩
    · rename_i _ sz j hsz
      split at h
      · rename_i ts l hj
        cases hb : Nat.beq sz ts.len with
        | false => rw [hb] at h; cases h
        | true =>
          rw [hb] at h
          simp only [cond_true] at h
          obtain ⟨hb2, h⟩ := Tree.run_ck h
          simp only [Tree.run, Option.some.injEq] at h; subst h
          have hi := inB_spec hb2
          obtain ⟨cap, h1, _⟩ := row_hdr (hs.obs j _ hj) hi.2.2
          rw [hu.1, h1]
          exact ⟨_, indexAt_slice hut hsz hi k _ _ cap, ⟨by simp, _, _, _, h1, hi.2.2⟩, hc⟩
      · rename_i ts l hj
        cases hb : Nat.beq sz ts.len with
        | false => rw [hb] at h; cases h
        | true =>
          rw [hb] at h
          simp only [cond_true] at h
          obtain ⟨hb2, h⟩ := Tree.run_ck h
          simp only [Tree.run, Option.some.injEq] at h; subst h
          have h0 : RepT F (.sl ts) l u := by rw [hu.1]; exact hs.obs j _ hj
          obtain ⟨v, h1, h2⟩ := elem_q (r := r) (w := w) hut hsz h0 (Nat.eq_of_beq_eq_true hb) (inB_spec hb2) k
          exact ⟨v, h1, h2, trivial⟩
      · cases h
    · rename_i _ sz j sz' lo n mx hsz
      split at h
      · rename_i ts l hj
        cases hb : (Nat.beq sz ts.len && Nat.beq sz' sz) with
        | false => rw [hb] at h; cases h
        | true =>
          rw [hb] at h
          simp only [cond_true] at h
          simp only [Bool.and_eq_true] at hb
          obtain ⟨hb2, h⟩ := Tree.run_ck h
          simp only [Tree.run, Option.some.injEq] at h; subst h
          simp only [Bool.and_eq_true] at hb2
          have hi := inB_spec hb2.1
          have hle : lo + n ≤ l.length := Nat.le_of_ble_eq_true hb2.2.1
          have he : sz' = sz := Nat.eq_of_beq_eq_true hb.2
          subst he
          obtain ⟨cap, h1, h2, _⟩ := row_hdr (i := lo + i.toNat) (hs.obs j _ hj) (by omega)
          obtain ⟨hu, hone⟩ := hu
          rw [h1, subHdr] at hu
          have hmx : mx.getD cap ≠ lo := by
            cases mx with
            | none => simp; omega
            | some m =>
              have : lo < m := Nat.le_of_ble_eq_true hb2.2.2
              simp; omega
          rw [if_neg hmx] at hu
          simp only [Option.map_some, Addr.add_mid] at hu
          rw [hu]
          refine ⟨_, indexAt_slice hut hsz hi k _ _ _, ⟨?_, _, _, _, h1, by omega⟩, hc⟩
          rw [Nat.add_mul]; simp [Nat.add_assoc]
      · cases h
    · rename_i _ sz j off sz' n cap hsz
      cases hb : Nat.beq sz' sz with
      | false => rw [hb] at h; cases h
      | true =>
        rw [hb] at h
        simp only [cond_true] at h
        obtain ⟨hb2, h⟩ := Tree.run_ck h
        simp only [Tree.run, Option.some.injEq] at h; subst h
        have hi := inB_spec hb2
        rw [show u = _ from hu]
        exact ⟨_, indexAt_slice hut hsz hi k _ _ cap, ⟨by simp only [Nat.add_assoc, Nat.add_zero], hi.2.2⟩, hc⟩
    · cases h
  · cases h
end
end Go.Sz
