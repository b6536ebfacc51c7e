/-
  Scalars as values; the shapes of contracts over them.
-/
import Derived.Test.YtlaaljiffcablaaGreatDoorScS
namespace Go.Sc
open Go Go.Sy Go.Tn

@[reducible] def sC (k : Sc) : List Cell := [.w .u64 k.t.v, .w .u64 k.t.m, .w .u64 k.u, .w .u64 k.U, .v (.int .i64 k.s), .v (.int .i64 k.S)]
@[reducible] def sA (k : Sc) : AV := .p (.many (sC k))
@[reducible] def sbA (k : Sc) (b : Bool) : AV := .t [.many (sC k), .one (.v (.bool b))]
@[reducible] def ssbA (k l : Sc) (b : Bool) : AV := .t [.many (sC k), .many (sC l), .one (.v (.bool b))]
@[reducible] def bbA (a b : Bool) : AV := .t [.one (.v (.bool a)), .one (.v (.bool b))]
@[reducible] def ubA (a : BitVec 64) (b : Bool) : AV := .t [.one (.w .u64 a), .one (.v (.bool b))]
@[reducible] def ibA (a : Int) (b : Bool) : AV := .t [.one (.v (.int .i64 a)), .one (.v (.bool b))]
@[reducible] def pC (p : Pr) : List Cell := [.w .u64 p.a.t.v, .w .u64 p.a.t.m, .w .u64 p.a.u, .w .u64 p.a.U, .v (.int .i64 p.a.s), .v (.int .i64 p.a.S),
  .w .u64 p.b.t.v, .w .u64 p.b.t.m, .w .u64 p.b.u, .w .u64 p.b.U, .v (.int .i64 p.b.s), .v (.int .i64 p.b.S), .v (.bool p.n)]
@[reducible] def ptr0 : AV := .p (.one (.p 0 0))
@[reducible] def nilA : AV := .t []

noncomputable def syncF (k : Sc) : Sc := (sync k).getD zero
noncomputable def syncB (k : Sc) : Bool := (sync k).isSome

abbrev GG := List AV → Hp → Option (AV × Hp)
def hS (F : Sc → AV) : GG
  | [.p (.many [.w .u64 a1, .w .u64 a2, .w .u64 a3, .w .u64 a4, .v (.int .i64 a5), .v (.int .i64 a6)])], [] => some (F ⟨⟨a1, a2⟩, a3, a4, a5, a6⟩, [])
  | _, _ => none
def hSU (F : Sc → BitVec 64 → AV) : GG
  | [.p (.many [.w .u64 a1, .w .u64 a2, .w .u64 a3, .w .u64 a4, .v (.int .i64 a5), .v (.int .i64 a6)]), .p (.one (.w .u64 n))], [] => some (F ⟨⟨a1, a2⟩, a3, a4, a5, a6⟩ n, [])
  | _, _ => none
def hSS (F : Sc → Sc → AV) : GG
  | [.p (.many [.w .u64 a1, .w .u64 a2, .w .u64 a3, .w .u64 a4, .v (.int .i64 a5), .v (.int .i64 a6)]), .p (.many [.w .u64 b1, .w .u64 b2, .w .u64 b3, .w .u64 b4, .v (.int .i64 b5), .v (.int .i64 b6)])], [] =>
    some (F ⟨⟨a1, a2⟩, a3, a4, a5, a6⟩ ⟨⟨b1, b2⟩, b3, b4, b5, b6⟩, [])
  | _, _ => none
def hSSS (F : Sc → Sc → Sc → AV) : GG
  | [.p (.many [.w .u64 a1, .w .u64 a2, .w .u64 a3, .w .u64 a4, .v (.int .i64 a5), .v (.int .i64 a6)]), .p (.many [.w .u64 b1, .w .u64 b2, .w .u64 b3, .w .u64 b4, .v (.int .i64 b5), .v (.int .i64 b6)]),
     .p (.many [.w .u64 c1, .w .u64 c2, .w .u64 c3, .w .u64 c4, .v (.int .i64 c5), .v (.int .i64 c6)])], [] =>
    some (F ⟨⟨a1, a2⟩, a3, a4, a5, a6⟩ ⟨⟨b1, b2⟩, b3, b4, b5, b6⟩ ⟨⟨c1, c2⟩, c3, c4, c5, c6⟩, [])
  | _, _ => none
def hISS (F : Int → Sc → Sc → AV) : GG
  | [.p (.one (.v (.int .i64 op))), .p (.many [.w .u64 a1, .w .u64 a2, .w .u64 a3, .w .u64 a4, .v (.int .i64 a5), .v (.int .i64 a6)]), .p (.many [.w .u64 b1, .w .u64 b2, .w .u64 b3, .w .u64 b4, .v (.int .i64 b5), .v (.int .i64 b6)])], [] =>
    some (F op ⟨⟨a1, a2⟩, a3, a4, a5, a6⟩ ⟨⟨b1, b2⟩, b3, b4, b5, b6⟩, [])
  | _, _ => none
def hISIS (F : Int → Sc → Int → Sc → AV) : GG
  | [.p (.one (.v (.int .i64 op))), .p (.many [.w .u64 a1, .w .u64 a2, .w .u64 a3, .w .u64 a4, .v (.int .i64 a5), .v (.int .i64 a6)]), .p (.one (.v (.int .i64 n))), .p (.many [.w .u64 b1, .w .u64 b2, .w .u64 b3, .w .u64 b4, .v (.int .i64 b5), .v (.int .i64 b6)])], [] =>
    some (F op ⟨⟨a1, a2⟩, a3, a4, a5, a6⟩ n ⟨⟨b1, b2⟩, b3, b4, b5, b6⟩, [])
  | _, _ => none
def hIBSS (F : Int → Bool → Sc → Sc → AV) : GG
  | [.p (.one (.v (.int .i64 op))), .p (.one (.v (.bool w))), .p (.many [.w .u64 a1, .w .u64 a2, .w .u64 a3, .w .u64 a4, .v (.int .i64 a5), .v (.int .i64 a6)]), .p (.many [.w .u64 b1, .w .u64 b2, .w .u64 b3, .w .u64 b4, .v (.int .i64 b5), .v (.int .i64 b6)])], [] =>
    some (F op w ⟨⟨a1, a2⟩, a3, a4, a5, a6⟩ ⟨⟨b1, b2⟩, b3, b4, b5, b6⟩, [])
  | _, _ => none
def hIBBSS (F : Int → Bool → Bool → Sc → Sc → AV) : GG
  | [.p (.one (.v (.int .i64 op))), .p (.one (.v (.bool w))), .p (.one (.v (.bool x))), .p (.many [.w .u64 a1, .w .u64 a2, .w .u64 a3, .w .u64 a4, .v (.int .i64 a5), .v (.int .i64 a6)]), .p (.many [.w .u64 b1, .w .u64 b2, .w .u64 b3, .w .u64 b4, .v (.int .i64 b5), .v (.int .i64 b6)])], [] =>
    some (F op w x ⟨⟨a1, a2⟩, a3, a4, a5, a6⟩ ⟨⟨b1, b2⟩, b3, b4, b5, b6⟩, [])
  | _, _ => none
def hII (F : Int → Int → AV) : GG
  | [.p (.one (.v (.int .i64 a))), .p (.one (.v (.int .i64 b)))], [] => some (F a b, [])
  | _, _ => none
def hI (F : Int → AV) : GG
  | [.p (.one (.v (.int .i64 a)))], [] => some (F a, [])
  | _, _ => none
def hUUI (F : BitVec 64 → BitVec 64 → Int → AV) : GG
  | [.p (.one (.w .u64 a)), .p (.one (.w .u64 b)), .p (.one (.v (.int .i64 n)))], [] => bif decide (n = 64) then some (F a b 64, []) else bif decide (n = 32) then some (F a b 32, []) else none
  | _, _ => none
def hIBUU (F : Int → Bool → BitVec 64 → BitVec 64 → AV) : GG
  | [.p (.one (.v (.int .i64 op))), .p (.one (.v (.bool w))), .p (.one (.w .u64 a)), .p (.one (.w .u64 b))], [] => some (F op w a b, [])
  | _, _ => none
/-- a pointer to a scalar: it is written over -/
def hK (F : Sc → AV × Sc) : GG
  | [.p (.one (.p 0 0))], [[.w .u64 a1, .w .u64 a2, .w .u64 a3, .w .u64 a4, .v (.int .i64 a5), .v (.int .i64 a6)]] => some ((F ⟨⟨a1, a2⟩, a3, a4, a5, a6⟩).1, [sC (F ⟨⟨a1, a2⟩, a3, a4, a5, a6⟩).2])
  | _, _ => none
def hP (F : Pr → Pr) : GG
  | [.p (.one (.p 0 0))], [[.w .u64 a1, .w .u64 a2, .w .u64 a3, .w .u64 a4, .v (.int .i64 a5), .v (.int .i64 a6), .w .u64 b1, .w .u64 b2, .w .u64 b3, .w .u64 b4, .v (.int .i64 b5), .v (.int .i64 b6), .v (.bool n)]] =>
    some (nilA, [pC (F ⟨⟨⟨a1, a2⟩, a3, a4, a5, a6⟩, ⟨⟨b1, b2⟩, b3, b4, b5, b6⟩, n⟩)])
  | _, _ => none
def hPB (F : Pr → Bool → Pr) : GG
  | [.p (.one (.p 0 0)), .p (.one (.v (.bool e)))], [[.w .u64 a1, .w .u64 a2, .w .u64 a3, .w .u64 a4, .v (.int .i64 a5), .v (.int .i64 a6), .w .u64 b1, .w .u64 b2, .w .u64 b3, .w .u64 b4, .v (.int .i64 b5), .v (.int .i64 b6), .v (.bool n)]] =>
    some (nilA, [pC (F ⟨⟨⟨a1, a2⟩, a3, a4, a5, a6⟩, ⟨⟨b1, b2⟩, b3, b4, b5, b6⟩, n⟩ e)])
  | _, _ => none
def hPI (F : Pr → Int → Pr) : GG
  | [.p (.one (.p 0 0)), .p (.one (.v (.int .i64 e)))], [[.w .u64 a1, .w .u64 a2, .w .u64 a3, .w .u64 a4, .v (.int .i64 a5), .v (.int .i64 a6), .w .u64 b1, .w .u64 b2, .w .u64 b3, .w .u64 b4, .v (.int .i64 b5), .v (.int .i64 b6), .v (.bool n)]] =>
    some (nilA, [pC (F ⟨⟨⟨a1, a2⟩, a3, a4, a5, a6⟩, ⟨⟨b1, b2⟩, b3, b4, b5, b6⟩, n⟩ e)])
  | _, _ => none
/-- a slice of four words -/
def hL4 (F : BitVec 64 → BitVec 64 → BitVec 64 → BitVec 64 → AV) : GG
  | [.p (.one (.s 0 0 1 4 4))], [[.w .u64 a, .w .u64 b, .w .u64 c, .w .u64 d]] => some (F a b c d, [[.w .u64 a, .w .u64 b, .w .u64 c, .w .u64 d]])
  | _, _ => none

section
variable {args : List AV} {H H' : Hp} {v : AV}
theorem hS_inv {F : Sc → AV} (h : hS F args H = some (v, H')) : ∃ a, args = [sA a] ∧ H = [] ∧ v = F a ∧ H' = [] := by
  unfold hS at h; split at h
  · cases h; exact ⟨⟨⟨_, _⟩, _, _, _, _⟩, rfl, rfl, rfl, rfl⟩
  · cases h
theorem hSU_inv {F : Sc → BitVec 64 → AV} (h : hSU F args H = some (v, H')) : ∃ a n, args = [sA a, uA n] ∧ H = [] ∧ v = F a n ∧ H' = [] := by
  unfold hSU at h; split at h
  · cases h; exact ⟨⟨⟨_, _⟩, _, _, _, _⟩, _, rfl, rfl, rfl, rfl⟩
  · cases h
theorem hSS_inv {F : Sc → Sc → AV} (h : hSS F args H = some (v, H')) : ∃ a b, args = [sA a, sA b] ∧ H = [] ∧ v = F a b ∧ H' = [] := by
  unfold hSS at h; split at h
  · cases h; exact ⟨⟨⟨_, _⟩, _, _, _, _⟩, ⟨⟨_, _⟩, _, _, _, _⟩, rfl, rfl, rfl, rfl⟩
  · cases h
theorem hSSS_inv {F : Sc → Sc → Sc → AV} (h : hSSS F args H = some (v, H')) : ∃ a b c, args = [sA a, sA b, sA c] ∧ H = [] ∧ v = F a b c ∧ H' = [] := by
  unfold hSSS at h; split at h
  · cases h; exact ⟨⟨⟨_, _⟩, _, _, _, _⟩, ⟨⟨_, _⟩, _, _, _, _⟩, ⟨⟨_, _⟩, _, _, _, _⟩, rfl, rfl, rfl, rfl⟩
  · cases h
theorem hISS_inv {F : Int → Sc → Sc → AV} (h : hISS F args H = some (v, H')) : ∃ op a b, args = [iA op, sA a, sA b] ∧ H = [] ∧ v = F op a b ∧ H' = [] := by
  unfold hISS at h; split at h
  · cases h; exact ⟨_, ⟨⟨_, _⟩, _, _, _, _⟩, ⟨⟨_, _⟩, _, _, _, _⟩, rfl, rfl, rfl, rfl⟩
  · cases h
theorem hISIS_inv {F : Int → Sc → Int → Sc → AV} (h : hISIS F args H = some (v, H')) : ∃ op a n b, args = [iA op, sA a, iA n, sA b] ∧ H = [] ∧ v = F op a n b ∧ H' = [] := by
  unfold hISIS at h; split at h
  · cases h; exact ⟨_, ⟨⟨_, _⟩, _, _, _, _⟩, _, ⟨⟨_, _⟩, _, _, _, _⟩, rfl, rfl, rfl, rfl⟩
  · cases h
theorem hIBSS_inv {F : Int → Bool → Sc → Sc → AV} (h : hIBSS F args H = some (v, H')) : ∃ op w a b, args = [iA op, bA w, sA a, sA b] ∧ H = [] ∧ v = F op w a b ∧ H' = [] := by
  unfold hIBSS at h; split at h
  · cases h; exact ⟨_, _, ⟨⟨_, _⟩, _, _, _, _⟩, ⟨⟨_, _⟩, _, _, _, _⟩, rfl, rfl, rfl, rfl⟩
  · cases h
theorem hIBBSS_inv {F : Int → Bool → Bool → Sc → Sc → AV} (h : hIBBSS F args H = some (v, H')) : ∃ op w x a b, args = [iA op, bA w, bA x, sA a, sA b] ∧ H = [] ∧ v = F op w x a b ∧ H' = [] := by
  unfold hIBBSS at h; split at h
  · cases h; exact ⟨_, _, _, ⟨⟨_, _⟩, _, _, _, _⟩, ⟨⟨_, _⟩, _, _, _, _⟩, rfl, rfl, rfl, rfl⟩
  · cases h
theorem hII_inv {F : Int → Int → AV} (h : hII F args H = some (v, H')) : ∃ a b, args = [iA a, iA b] ∧ H = [] ∧ v = F a b ∧ H' = [] := by
  unfold hII at h; split at h
  · cases h; exact ⟨_, _, rfl, rfl, rfl, rfl⟩
  · cases h
theorem hI_inv {F : Int → AV} (h : hI F args H = some (v, H')) : ∃ a, args = [iA a] ∧ H = [] ∧ v = F a ∧ H' = [] := by
  unfold hI at h; split at h
  · cases h; exact ⟨_, rfl, rfl, rfl, rfl⟩
  · cases h
theorem hUUI_inv {F : BitVec 64 → BitVec 64 → Int → AV} (h : hUUI F args H = some (v, H')) : ∃ a b n, (n = 64 ∨ n = 32) ∧ args = [uA a, uA b, iA n] ∧ H = [] ∧ v = F a b n ∧ H' = [] := by
  unfold hUUI at h; split at h
  · rename_i a b n
    by_cases h1 : n = 64
    · subst h1
      simp only [decide_true, cond_true, Option.some.injEq, Prod.mk.injEq] at h
      exact ⟨a, b, 64, .inl rfl, rfl, rfl, h.1.symm, h.2.symm⟩
    · rw [decide_eq_false h1] at h
      by_cases h2 : n = 32
      · subst h2
        simp only [decide_true, cond_true, cond_false, Option.some.injEq, Prod.mk.injEq] at h
        exact ⟨a, b, 32, .inr rfl, rfl, rfl, h.1.symm, h.2.symm⟩
      · rw [decide_eq_false h2] at h; cases h
  · cases h
theorem hIBUU_inv {F : Int → Bool → BitVec 64 → BitVec 64 → AV} (h : hIBUU F args H = some (v, H')) : ∃ op w a b, args = [iA op, bA w, uA a, uA b] ∧ H = [] ∧ v = F op w a b ∧ H' = [] := by
  unfold hIBUU at h; split at h
  · cases h; exact ⟨_, _, _, _, rfl, rfl, rfl, rfl⟩
  · cases h
theorem hK_inv {F : Sc → AV × Sc} (h : hK F args H = some (v, H')) : ∃ a, args = [ptr0] ∧ H = [sC a] ∧ v = (F a).1 ∧ H' = [sC (F a).2] := by
  unfold hK at h; split at h
  · cases h; exact ⟨⟨⟨_, _⟩, _, _, _, _⟩, rfl, rfl, rfl, rfl⟩
  · cases h
theorem hP_inv {F : Pr → Pr} (h : hP F args H = some (v, H')) : ∃ p, args = [ptr0] ∧ H = [pC p] ∧ v = nilA ∧ H' = [pC (F p)] := by
  unfold hP at h; split at h
  · cases h; exact ⟨⟨⟨⟨_, _⟩, _, _, _, _⟩, ⟨⟨_, _⟩, _, _, _, _⟩, _⟩, rfl, rfl, rfl, rfl⟩
  · cases h
theorem hPB_inv {F : Pr → Bool → Pr} (h : hPB F args H = some (v, H')) : ∃ p e, args = [ptr0, bA e] ∧ H = [pC p] ∧ v = nilA ∧ H' = [pC (F p e)] := by
  unfold hPB at h; split at h
  · cases h; exact ⟨⟨⟨⟨_, _⟩, _, _, _, _⟩, ⟨⟨_, _⟩, _, _, _, _⟩, _⟩, _, rfl, rfl, rfl, rfl⟩
  · cases h
theorem hPI_inv {F : Pr → Int → Pr} (h : hPI F args H = some (v, H')) : ∃ p e, args = [ptr0, iA e] ∧ H = [pC p] ∧ v = nilA ∧ H' = [pC (F p e)] := by
  unfold hPI at h; split at h
  · cases h; exact ⟨⟨⟨⟨_, _⟩, _, _, _, _⟩, ⟨⟨_, _⟩, _, _, _, _⟩, _⟩, _, rfl, rfl, rfl, rfl⟩
  · cases h
theorem hL4_inv {F : BitVec 64 → BitVec 64 → BitVec 64 → BitVec 64 → AV} (h : hL4 F args H = some (v, H')) : ∃ a b c d : BitVec 64, args = [.p (.one (.s 0 0 1 4 4))] ∧ H = [[.w .u64 a, .w .u64 b, .w .u64 c, .w .u64 d]] ∧ v = F a b c d ∧ H' = [[.w .u64 a, .w .u64 b, .w .u64 c, .w .u64 d]] := by
  unfold hL4 at h; split at h
  · cases h; exact ⟨_, _, _, _, rfl, rfl, rfl, rfl⟩
  · cases h
end
end Go.Sc
