/-
  The contracts of package scalar's functions, sixth part (comparisons), over this seat's program (written by our own gen_sc6.py).
-/
import Derived.Test.YtlaaljiffcablaaGreatDoorScO
namespace Go.Proofs.YtlaaljiffcablaaGreatDoor
open Go Go.Sy Go.Tn Go.Sc
set_option linter.unusedSimpArgs false
set_option linter.unusedVariables false
noncomputable section

namespace pcommon
def path0 : List Nat := [0]
def K0 : List Nat := [0]
def M0 : List Nat := [0, 2, 3]
def orc0 : St → Option (Ex × St)
  | ⟨[(0, .p (.one (.p 0 0)))], [[.w .u64 a1, .w .u64 a2, .w .u64 a3, .w .u64 a4, .v (.int .i64 a5), .v (.int .i64 a6), .w .u64 b1, .w .u64 b2, .w .u64 b3, .w .u64 b4, .v (.int .i64 b5), .v (.int .i64 b6), .v (.bool c)]]⟩ => some (.normal, ⟨[(0, .p (.one (.p 0 0))), (2, .p (.one (.p 1 0))), (3, .p (.one (.p 2 0)))], [[.w .u64 a1, .w .u64 a2, .w .u64 a3, .w .u64 a4, .v (.int .i64 a5), .v (.int .i64 a6), .w .u64 b1, .w .u64 b2, .w .u64 b3, .w .u64 b4, .v (.int .i64 b5), .v (.int .i64 b6), .v (.bool c)], [.w .u64 a1, .w .u64 a2], [.w .u64 b1, .w .u64 b2]]⟩)
  | _ => none
theorem reg0 (a1 a2 a3 a4 : BitVec 64) (a5 a6 : Int) (b1 b2 b3 b4 : BitVec 64) (b5 b6 : Int) (c : Bool) : (drawL Tryz.prog (lk (L_punlike)) Tryz.f43.ntmps (opsAt (codeOf Tryz.f43) path0) (opsAt (codeOf Tryz.f43) path0).size (Array.replicate (opsAt (codeOf Tryz.f43) path0).size false) [] ⟨[(0, .p (.one (.p 0 0)))], [[.w .u64 a1, .w .u64 a2, .w .u64 a3, .w .u64 a4, .v (.int .i64 a5), .v (.int .i64 a6), .w .u64 b1, .w .u64 b2, .w .u64 b3, .w .u64 b4, .v (.int .i64 b5), .v (.int .i64 b6), .v (.bool c)]]⟩).run.bind (permAll 1 M0 [[], [0, 2, 1]]) = some (List.replicate 2 ⟨[(0, .p (.one (.p 0 0))), (2, .p (.one (.p 1 0))), (3, .p (.one (.p 2 0)))], [[.w .u64 a1, .w .u64 a2, .w .u64 a3, .w .u64 a4, .v (.int .i64 a5), .v (.int .i64 a6), .w .u64 b1, .w .u64 b2, .w .u64 b3, .w .u64 b4, .v (.int .i64 b5), .v (.int .i64 b6), .v (.bool c)], [.w .u64 a1, .w .u64 a2], [.w .u64 b1, .w .u64 b2]]⟩) := by kernel_rfl
def LL : LT := (oneL path0 K0 M0 orc0 noL)
theorem lok : LOk Tryz.prog (lk (L_punlike)) Tryz.f43.ntmps 20 LL (codeOf Tryz.f43) := (lok_regP (noL_ok2 _ _ _ _ _ _) (by kernel_rfl) 2 [[], [0, 2, 1]] fun st ex st' h => by
    unfold orc0 at h
    split at h
    · injection h with h
      injection h with h1 h2
      subst h1; subst h2
      exact ⟨rfl, 1, rfl, reg0 _ _ _ _ _ _ _ _ _ _ _ _ _⟩
    · cases h)
end pcommon
theorem ev_pcommon (p : Pr) : (evalFnL Tryz.prog (lk L_punlike) 20 pcommon.LL Tryz.f43 (codeOf Tryz.f43) [ptr0] [pC p]).run = some (nilA, [pC (common p)]) := by
  have e : (evalFnL Tryz.prog (lk L_punlike) 20 pcommon.LL Tryz.f43 (codeOf Tryz.f43) [ptr0] [pC p]).run = some (nilA, [pC ⟨p.a, p.b, (p.a.t.v ||| p.a.t.m) &&& (p.b.t.v ||| p.b.t.m) == BitVec.ofInt 64 0⟩]) := by kernel_rfl
  rw [e]
  rfl
theorem ok_pcommon : SummOk Kn Tryz.prog 43 (sm [13] (hP common)) := summ_ofL tok_punlike Tryz.checked.mixed Tryz.func43 (by kernel_rfl) (by rfl) 20 pcommon.lok (fun args H v H' h => by
  obtain ⟨p, rfl, rfl, rfl, rfl⟩ := hP_inv h; exact ev_pcommon p)
def L_pcommon : List (Nat × Summ) := (43, (sm [13] (hP common))) :: L_punlike
theorem tok_pcommon : TOk Kn Tryz.prog (lk L_pcommon) := lk_cons ok_pcommon tok_punlike

namespace psame
def path0 : List Nat := [0]
def K0 : List Nat := [0]
def M0 : List Nat := [0, 2, 3]
def orc0 : St → Option (Ex × St)
  | ⟨[(0, .p (.one (.p 0 0)))], [[.w .u64 a1, .w .u64 a2, .w .u64 a3, .w .u64 a4, .v (.int .i64 a5), .v (.int .i64 a6), .w .u64 b1, .w .u64 b2, .w .u64 b3, .w .u64 b4, .v (.int .i64 b5), .v (.int .i64 b6), .v (.bool c)]]⟩ => some (.normal, ⟨[(0, .p (.one (.p 0 0))), (2, .p (.one (.p 1 0))), (3, .p (.one (.v (.bool (meetB ⟨⟨a1, a2⟩, a3, a4, a5, a6⟩ ⟨⟨b1, b2⟩, b3, b4, b5, b6⟩)))))], [[.w .u64 a1, .w .u64 a2, .w .u64 a3, .w .u64 a4, .v (.int .i64 a5), .v (.int .i64 a6), .w .u64 b1, .w .u64 b2, .w .u64 b3, .w .u64 b4, .v (.int .i64 b5), .v (.int .i64 b6), .v (.bool c)], (sC (meetF ⟨⟨a1, a2⟩, a3, a4, a5, a6⟩ ⟨⟨b1, b2⟩, b3, b4, b5, b6⟩))]⟩)
  | _ => none
theorem reg0 (a1 a2 a3 a4 : BitVec 64) (a5 a6 : Int) (b1 b2 b3 b4 : BitVec 64) (b5 b6 : Int) (c : Bool) : (drawL Tryz.prog (lk (L_pcommon)) Tryz.f82.ntmps (opsAt (codeOf Tryz.f82) path0) (opsAt (codeOf Tryz.f82) path0).size (Array.replicate (opsAt (codeOf Tryz.f82) path0).size false) [] ⟨[(0, .p (.one (.p 0 0)))], [[.w .u64 a1, .w .u64 a2, .w .u64 a3, .w .u64 a4, .v (.int .i64 a5), .v (.int .i64 a6), .w .u64 b1, .w .u64 b2, .w .u64 b3, .w .u64 b4, .v (.int .i64 b5), .v (.int .i64 b6), .v (.bool c)]]⟩).run.map (List.map (restS M0)) = some (List.replicate 2 ⟨[(0, .p (.one (.p 0 0))), (2, .p (.one (.p 1 0))), (3, .p (.one (.v (.bool (meetB ⟨⟨a1, a2⟩, a3, a4, a5, a6⟩ ⟨⟨b1, b2⟩, b3, b4, b5, b6⟩)))))], [[.w .u64 a1, .w .u64 a2, .w .u64 a3, .w .u64 a4, .v (.int .i64 a5), .v (.int .i64 a6), .w .u64 b1, .w .u64 b2, .w .u64 b3, .w .u64 b4, .v (.int .i64 b5), .v (.int .i64 b6), .v (.bool c)], (sC (meetF ⟨⟨a1, a2⟩, a3, a4, a5, a6⟩ ⟨⟨b1, b2⟩, b3, b4, b5, b6⟩))]⟩) := by kernel_rfl
def LL : LT := (oneL path0 K0 M0 orc0 noL)
theorem lok : LOk Tryz.prog (lk (L_pcommon)) Tryz.f82.ntmps 20 LL (codeOf Tryz.f82) := (lok_regN (noL_ok2 _ _ _ _ _ _) (by kernel_rfl) 2 fun st ex st' h => by
    unfold orc0 at h
    split at h
    · injection h with h
      injection h with h1 h2
      subst h1; subst h2
      exact ⟨rfl, reg0 _ _ _ _ _ _ _ _ _ _ _ _ _⟩
    · cases h)
end psame
theorem ev_psame (p : Pr) : (evalFnL Tryz.prog (lk L_pcommon) 20 psame.LL Tryz.f82 (codeOf Tryz.f82) [ptr0] [pC p]).run = some (nilA, [pC (same p)]) := by
  have e : (evalFnL Tryz.prog (lk L_pcommon) 20 psame.LL Tryz.f82 (codeOf Tryz.f82) [ptr0] [pC p]).run = some (nilA, [pC ⟨meetF p.a p.b, meetF p.a p.b, !meetB p.a p.b⟩]) := by kernel_rfl
  rw [e]
  unfold same meetF meetB
  cases meetS p.a p.b <;> rfl
theorem ok_psame : SummOk Kn Tryz.prog 82 (sm [13] (hP same)) := summ_ofL tok_pcommon Tryz.checked.mixed Tryz.func82 (by kernel_rfl) (by rfl) 20 psame.lok (fun args H v H' h => by
  obtain ⟨p, rfl, rfl, rfl, rfl⟩ := hP_inv h; exact ev_psame p)
def L_psame : List (Nat × Summ) := (82, (sm [13] (hP same))) :: L_pcommon
theorem tok_psame : TOk Kn Tryz.prog (lk L_psame) := lk_cons ok_psame tok_pcommon

def ckB : List AV → Hp → Bool
  | [_, .p (.one (.v (.int .i64 op)))], _ => base0 op
  | _, _ => false
def okH (op : Int) : Bool := bif base0 op then true else base0 (turned op)
def ckH : List AV → Hp → Bool
  | [_, .p (.one (.v (.int .i64 op)))], _ => okH op
  | _, _ => false
theorem evA_pholds0 (SA : Pr → Pr) (UN : Pr → Pr) (LE : Pr → Bool → Pr) (LES : Pr → Bool → Pr) (p : Pr) (op : Int) : (evalFn Tryz.prog (lk ((85, (sm [13] (hPB LES))) :: (84, (sm [13] (hPB LE))) :: (83, (sm [13] (hP UN))) :: (82, (sm [13] (hP SA))) :: L_psame)) 20 Tryz.f45 (codeOf Tryz.f45) [ptr0, iA op] [pC p]).run = bif decide (op = 1) then some (nilA, [pC (SA p)]) else bif decide (op = 5) then some (nilA, [pC (UN p)]) else bif decide (op = 10) then (bif decide (op = 10) then some (nilA, [pC (LE p (decide (op = 11)))]) else (bif decide (op = 12) then (bif decide (op = 12) then some (nilA, [pC (LES p (decide (op = 13)))]) else none) else (bif decide (op = 13) then some (nilA, [pC (LES p (decide (op = 13)))]) else none))) else (bif decide (op = 11) then some (nilA, [pC (LE p (decide (op = 11)))]) else (bif decide (op = 12) then (bif decide (op = 12) then some (nilA, [pC (LES p (decide (op = 13)))]) else none) else (bif decide (op = 13) then some (nilA, [pC (LES p (decide (op = 13)))]) else none))) := by kernel_rfl
theorem ev_pholds0 (p : Pr) (op : Int) (hk : base0 op = true) : (evalFn Tryz.prog (lk ((85, (sm [13] (hPB lessS))) :: (84, (sm [13] (hPB less))) :: (83, (sm [13] (hP unlike))) :: (82, (sm [13] (hP same))) :: L_psame)) 20 Tryz.f45 (codeOf Tryz.f45) [ptr0, iA op] [pC p]).run = some (nilA, [pC ((fun p op => holds0 op p) p op)]) := by
  refine (evA_pholds0 same unlike less lessS p op).trans ?_
  show _ = some (nilA, [pC (holds0 op p)])
  unfold base0 at hk
  unfold holds0
  revert hk
  by_cases h1 : op = 1
  · subst h1; intro _; rfl
  by_cases h5 : op = 5
  · subst h5; intro _; rfl
  by_cases h10 : op = 10
  · subst h10; intro _; rfl
  by_cases h11 : op = 11
  · subst h11; intro _; rfl
  by_cases h12 : op = 12
  · subst h12; intro _; rfl
  by_cases h13 : op = 13
  · subst h13; intro _; rfl
  rw [decide_eq_false h1, decide_eq_false h5, decide_eq_false h10, decide_eq_false h11, decide_eq_false h12, decide_eq_false h13]
  intro h; cases h
theorem ok_pholds0 : SummOk Kn Tryz.prog 45 ⟨[13], (hPI (fun p op => holds0 op p)), ckB⟩ := summ_of_eval (lk_cons ok_plessS (lk_cons ok_pless (lk_cons ok_punlike (lk_cons ok_psame tok_psame)))) Tryz.checked.mixed Tryz.func45 (by kernel_rfl) (by rfl) 20 (fun args H v H' h hck => by
  obtain ⟨p, op, rfl, rfl, rfl, rfl⟩ := hPI_inv (F := fun p op => holds0 op p) h; exact ev_pholds0 p op hck)
def L_pholds0 : List (Nat × Summ) := (45, ⟨[13], (hPI (fun p op => holds0 op p)), ckB⟩) :: L_psame
theorem tok_pholds0 : TOk Kn Tryz.prog (lk L_pholds0) := lk_cons ok_pholds0 tok_psame

def hold0 (p : Pr) (op : Int) : Pr := holds0 op p
@[reducible] def qP (q : Pr) : Pr := ⟨q.b, q.a, q.n⟩
theorem evA_pholds (SA : Pr → Pr) (UN : Pr → Pr) (LE : Pr → Bool → Pr) (LES : Pr → Bool → Pr) (H0 : Pr → Int → Pr) (TU : Int → Int) (p : Pr) (op : Int) : (evalFn Tryz.prog (lk ((80, (sm [] (hI fun op => iA (TU op)))) :: (45, ⟨[13], (hPI fun p op => H0 p op), ckB⟩) :: (85, (sm [13] (hPB LES))) :: (84, (sm [13] (hPB LE))) :: (83, (sm [13] (hP UN))) :: (82, (sm [13] (hP SA))) :: L_pholds0)) 20 Tryz.f45 (codeOf Tryz.f45) [ptr0, iA op] [pC p]).run = bif decide (op = 1) then some (nilA, [pC (SA p)]) else bif decide (op = 5) then some (nilA, [pC (UN p)]) else bif decide (op = 10) then (bif decide (op = 10) then some (nilA, [pC (LE p (decide (op = 11)))]) else (bif decide (op = 12) then (bif decide (op = 12) then some (nilA, [pC (LES p (decide (op = 13)))]) else (bif base0 (TU op) then some (nilA, [pC (qP (H0 ⟨p.b, p.a, false⟩ (TU op)))]) else none)) else (bif decide (op = 13) then some (nilA, [pC (LES p (decide (op = 13)))]) else (bif base0 (TU op) then some (nilA, [pC (qP (H0 ⟨p.b, p.a, false⟩ (TU op)))]) else none)))) else (bif decide (op = 11) then some (nilA, [pC (LE p (decide (op = 11)))]) else (bif decide (op = 12) then (bif decide (op = 12) then some (nilA, [pC (LES p (decide (op = 13)))]) else (bif base0 (TU op) then some (nilA, [pC (qP (H0 ⟨p.b, p.a, false⟩ (TU op)))]) else none)) else (bif decide (op = 13) then some (nilA, [pC (LES p (decide (op = 13)))]) else (bif base0 (TU op) then some (nilA, [pC (qP (H0 ⟨p.b, p.a, false⟩ (TU op)))]) else none)))) := by kernel_rfl
theorem ev_pholds (p : Pr) (op : Int) (hk : okH op = true) : (evalFn Tryz.prog (lk ((80, (sm [] (hI fun op => iA (turned op)))) :: (45, ⟨[13], (hPI fun p op => hold0 p op), ckB⟩) :: (85, (sm [13] (hPB lessS))) :: (84, (sm [13] (hPB less))) :: (83, (sm [13] (hP unlike))) :: (82, (sm [13] (hP same))) :: L_pholds0)) 20 Tryz.f45 (codeOf Tryz.f45) [ptr0, iA op] [pC p]).run = some (nilA, [pC ((fun p op => holds op p) p op)]) := by
  refine (evA_pholds same unlike less lessS hold0 turned p op).trans ?_
  show _ = some (nilA, [pC (holds op p)])
  unfold holds
  cases hb : base0 op with
  | true =>
    simp only [cond_true]
    unfold base0 at hb
    unfold holds0
    revert hb
    by_cases h1 : op = 1
    · subst h1; intro _; rfl
    by_cases h5 : op = 5
    · subst h5; intro _; rfl
    by_cases h10 : op = 10
    · subst h10; intro _; rfl
    by_cases h11 : op = 11
    · subst h11; intro _; rfl
    by_cases h12 : op = 12
    · subst h12; intro _; rfl
    by_cases h13 : op = 13
    · subst h13; intro _; rfl
    rw [decide_eq_false h1, decide_eq_false h5, decide_eq_false h10, decide_eq_false h11, decide_eq_false h12, decide_eq_false h13]
    intro h; cases h
  | false =>
    unfold okH at hk
    rw [hb] at hk
    simp only [cond_false] at hk ⊢
    rw [hk]
    unfold base0 at hb
    revert hb
    by_cases h1 : op = 1
    · subst h1; intro h; cases h
    by_cases h5 : op = 5
    · subst h5; intro h; cases h
    by_cases h10 : op = 10
    · subst h10; intro h; cases h
    by_cases h11 : op = 11
    · subst h11; intro h; cases h
    by_cases h12 : op = 12
    · subst h12; intro h; cases h
    by_cases h13 : op = 13
    · subst h13; intro h; cases h
    rw [decide_eq_false h1, decide_eq_false h5, decide_eq_false h10, decide_eq_false h11, decide_eq_false h12, decide_eq_false h13]
    intro _; rfl
theorem ok_pholds : SummOk Kn Tryz.prog 45 ⟨[13], (hPI (fun p op => holds op p)), ckH⟩ := summ_of_eval (lk_cons ok_turned (lk_cons ok_pholds0 (lk_cons ok_plessS (lk_cons ok_pless (lk_cons ok_punlike (lk_cons ok_psame tok_pholds0)))))) Tryz.checked.mixed Tryz.func45 (by kernel_rfl) (by rfl) 20 (fun args H v H' h hck => by
  obtain ⟨p, op, rfl, rfl, rfl, rfl⟩ := hPI_inv (F := fun p op => holds op p) h; exact ev_pholds p op hck)
def L_pholds : List (Nat × Summ) := (45, ⟨[13], (hPI (fun p op => holds op p)), ckH⟩) :: L_pholds0
theorem tok_pholds : TOk Kn Tryz.prog (lk L_pholds) := lk_cons ok_pholds tok_pholds0

namespace papart
def path : List Nat := [0, 1, 0, 0, 1, 1, 0, 0, 1]
def K : List Nat := [0, 3, 22, 23]
def M : List Nat := [0, 3, 22, 23, 4, 5]
def orc : St → Option (Ex × St)
  | ⟨[(0, .p (.one (.p 0 0))), (3, .p (.one (.p 1 0))), (22, .p (.many zz)), (23, .p (.one (.v (.int .i64 i))))], [[.w .u64 a1, .w .u64 a2, .w .u64 a3, .w .u64 a4, .v (.int .i64 a5), .v (.int .i64 a6), .w .u64 b1, .w .u64 b2, .w .u64 b3, .w .u64 b4, .v (.int .i64 b5), .v (.int .i64 b6), .v (.bool c)], [.p 0 o, .w .u64 y1, .w .u64 y2, .w .u64 y3, .w .u64 y4, .v (.int .i64 y5), .v (.int .i64 y6)]]⟩ => bif Nat.beq o 0 then some (.normal, ⟨[(0, .p (.one (.p 0 0))), (3, .p (.one (.p 1 0))), (22, .p (.many zz)), (23, .p (.one (.v (.int .i64 i)))), (4, .p (.one (.p 2 0))), (5, bA (meetOk ⟨a1, a2⟩ ⟨zW, ~~~y1⟩))], [[.w .u64 a1, .w .u64 a2, .w .u64 a3, .w .u64 a4, .v (.int .i64 a5), .v (.int .i64 a6), .w .u64 b1, .w .u64 b2, .w .u64 b3, .w .u64 b4, .v (.int .i64 b5), .v (.int .i64 b6), .v (.bool c)], [.p 0 0, .w .u64 y1, .w .u64 y2, .w .u64 y3, .w .u64 y4, .v (.int .i64 y5), .v (.int .i64 y6)], [.w .u64 (Tn.meet ⟨a1, a2⟩ ⟨zW, ~~~y1⟩).v, .w .u64 (Tn.meet ⟨a1, a2⟩ ⟨zW, ~~~y1⟩).m]]⟩) else bif Nat.beq o 6 then some (.normal, ⟨[(0, .p (.one (.p 0 0))), (3, .p (.one (.p 1 0))), (22, .p (.many zz)), (23, .p (.one (.v (.int .i64 i)))), (4, .p (.one (.p 2 0))), (5, bA (meetOk ⟨b1, b2⟩ ⟨zW, ~~~y1⟩))], [[.w .u64 a1, .w .u64 a2, .w .u64 a3, .w .u64 a4, .v (.int .i64 a5), .v (.int .i64 a6), .w .u64 b1, .w .u64 b2, .w .u64 b3, .w .u64 b4, .v (.int .i64 b5), .v (.int .i64 b6), .v (.bool c)], [.p 0 6, .w .u64 y1, .w .u64 y2, .w .u64 y3, .w .u64 y4, .v (.int .i64 y5), .v (.int .i64 y6)], [.w .u64 (Tn.meet ⟨b1, b2⟩ ⟨zW, ~~~y1⟩).v, .w .u64 (Tn.meet ⟨b1, b2⟩ ⟨zW, ~~~y1⟩).m]]⟩) else none
  | _ => none
theorem reg0 (a1 a2 a3 a4 : BitVec 64) (a5 a6 : Int) (b1 b2 b3 b4 : BitVec 64) (b5 b6 : Int) (c : Bool) (y1 y2 y3 y4 : BitVec 64) (y5 y6 : Int) (zz : List Cell) (i : Int) : (drawL Tryz.prog (lk L_pholds) Tryz.f44.ntmps (opsAt (codeOf Tryz.f44) path) (opsAt (codeOf Tryz.f44) path).size (Array.replicate (opsAt (codeOf Tryz.f44) path).size false) [] ⟨[(0, .p (.one (.p 0 0))), (3, .p (.one (.p 1 0))), (22, .p (.many zz)), (23, .p (.one (.v (.int .i64 i))))], [[.w .u64 a1, .w .u64 a2, .w .u64 a3, .w .u64 a4, .v (.int .i64 a5), .v (.int .i64 a6), .w .u64 b1, .w .u64 b2, .w .u64 b3, .w .u64 b4, .v (.int .i64 b5), .v (.int .i64 b6), .v (.bool c)], [.p 0 0, .w .u64 y1, .w .u64 y2, .w .u64 y3, .w .u64 y4, .v (.int .i64 y5), .v (.int .i64 y6)]]⟩).run.map (List.map (restS M)) = some (List.replicate 2 ⟨[(0, .p (.one (.p 0 0))), (3, .p (.one (.p 1 0))), (22, .p (.many zz)), (23, .p (.one (.v (.int .i64 i)))), (4, .p (.one (.p 2 0))), (5, bA (meetOk ⟨a1, a2⟩ ⟨zW, ~~~y1⟩))], [[.w .u64 a1, .w .u64 a2, .w .u64 a3, .w .u64 a4, .v (.int .i64 a5), .v (.int .i64 a6), .w .u64 b1, .w .u64 b2, .w .u64 b3, .w .u64 b4, .v (.int .i64 b5), .v (.int .i64 b6), .v (.bool c)], [.p 0 0, .w .u64 y1, .w .u64 y2, .w .u64 y3, .w .u64 y4, .v (.int .i64 y5), .v (.int .i64 y6)], [.w .u64 (Tn.meet ⟨a1, a2⟩ ⟨zW, ~~~y1⟩).v, .w .u64 (Tn.meet ⟨a1, a2⟩ ⟨zW, ~~~y1⟩).m]]⟩) := by kernel_rfl
theorem reg6 (a1 a2 a3 a4 : BitVec 64) (a5 a6 : Int) (b1 b2 b3 b4 : BitVec 64) (b5 b6 : Int) (c : Bool) (y1 y2 y3 y4 : BitVec 64) (y5 y6 : Int) (zz : List Cell) (i : Int) : (drawL Tryz.prog (lk L_pholds) Tryz.f44.ntmps (opsAt (codeOf Tryz.f44) path) (opsAt (codeOf Tryz.f44) path).size (Array.replicate (opsAt (codeOf Tryz.f44) path).size false) [] ⟨[(0, .p (.one (.p 0 0))), (3, .p (.one (.p 1 0))), (22, .p (.many zz)), (23, .p (.one (.v (.int .i64 i))))], [[.w .u64 a1, .w .u64 a2, .w .u64 a3, .w .u64 a4, .v (.int .i64 a5), .v (.int .i64 a6), .w .u64 b1, .w .u64 b2, .w .u64 b3, .w .u64 b4, .v (.int .i64 b5), .v (.int .i64 b6), .v (.bool c)], [.p 0 6, .w .u64 y1, .w .u64 y2, .w .u64 y3, .w .u64 y4, .v (.int .i64 y5), .v (.int .i64 y6)]]⟩).run.map (List.map (restS M)) = some (List.replicate 2 ⟨[(0, .p (.one (.p 0 0))), (3, .p (.one (.p 1 0))), (22, .p (.many zz)), (23, .p (.one (.v (.int .i64 i)))), (4, .p (.one (.p 2 0))), (5, bA (meetOk ⟨b1, b2⟩ ⟨zW, ~~~y1⟩))], [[.w .u64 a1, .w .u64 a2, .w .u64 a3, .w .u64 a4, .v (.int .i64 a5), .v (.int .i64 a6), .w .u64 b1, .w .u64 b2, .w .u64 b3, .w .u64 b4, .v (.int .i64 b5), .v (.int .i64 b6), .v (.bool c)], [.p 0 6, .w .u64 y1, .w .u64 y2, .w .u64 y3, .w .u64 y4, .v (.int .i64 y5), .v (.int .i64 y6)], [.w .u64 (Tn.meet ⟨b1, b2⟩ ⟨zW, ~~~y1⟩).v, .w .u64 (Tn.meet ⟨b1, b2⟩ ⟨zW, ~~~y1⟩).m]]⟩) := by kernel_rfl
def LL : LT := oneL path K M orc noL
theorem lok : LOk Tryz.prog (lk L_pholds) Tryz.f44.ntmps 20 LL (codeOf Tryz.f44) := lok_regN (noL_ok2 _ _ _ _ _ _) (by kernel_rfl) 2 fun st ex st' h => by
  unfold orc at h
  split at h
  · rename_i o _ _ _ _ _ _
    cases h0 : Nat.beq o 0 with
    | true =>
      rw [h0] at h
      obtain rfl := Nat.eq_of_beq_eq_true h0
      injection h with h
      injection h with h1 h2
      subst h1; subst h2
      exact ⟨rfl, reg0 _ _ _ _ _ _ _ _ _ _ _ _ _ _ _ _ _ _ _ _ _⟩
    | false =>
      rw [h0] at h
      cases h6 : Nat.beq o 6 with
      | false => rw [h6] at h; cases h
      | true =>
        rw [h6] at h
        obtain rfl := Nat.eq_of_beq_eq_true h6
        injection h with h
        injection h with h1 h2
        subst h1; subst h2
        exact ⟨rfl, reg6 _ _ _ _ _ _ _ _ _ _ _ _ _ _ _ _ _ _ _ _ _⟩
  · cases h
end papart

theorem ev_papart (p : Pr) : (evalFnL Tryz.prog (lk L_pholds) 20 papart.LL Tryz.f44 (codeOf Tryz.f44) [ptr0] [pC p]).run = some (nilA, [pC (apart p)]) := by
  have e : (evalFnL Tryz.prog (lk L_pholds) 20 papart.LL Tryz.f44 (codeOf Tryz.f44) [ptr0] [pC p]).run = bif !meetOk p.a.t ⟨zW, ~~~p.b.t.v⟩ then some (nilA, [pC ⟨p.a, p.b, true⟩]) else bif !meetOk p.b.t ⟨zW, ~~~p.a.t.v⟩ then some (nilA, [pC ⟨withT p.a (Tn.meet p.a.t ⟨zW, ~~~p.b.t.v⟩), p.b, true⟩]) else some (nilA, [pC ⟨withT p.a (Tn.meet p.a.t ⟨zW, ~~~p.b.t.v⟩), withT p.b (Tn.meet p.b.t ⟨zW, ~~~p.a.t.v⟩), p.n⟩]) := by kernel_rfl
  rw [e]
  unfold apart cutOk cutT
  cases meetOk p.a.t ⟨zW, ~~~p.b.t.v⟩ <;> cases meetOk p.b.t ⟨zW, ~~~p.a.t.v⟩ <;> simp only [cond_true, cond_false, Bool.not_true, Bool.not_false, Bool.and_true, Bool.true_and, Bool.false_and, Bool.and_false]
theorem ok_papart : SummOk Kn Tryz.prog 44 (sm [13] (hP apart)) := summ_ofL tok_pholds Tryz.checked.mixed Tryz.func44 (by kernel_rfl) (by rfl) 20 papart.lok (fun args H v H' h => by
  obtain ⟨p, rfl, rfl, rfl, rfl⟩ := hP_inv h; exact ev_papart p)
def L_papart : List (Nat × Summ) := (44, (sm [13] (hP apart))) :: L_pholds
theorem tok_papart : TOk Kn Tryz.prog (lk L_papart) := lk_cons ok_papart tok_pholds

end
end Go.Proofs.YtlaaljiffcablaaGreatDoor
