/-
  The law of blocks (written by our own gen_flc.py).
-/
import Derived.Test.YtdbnbijillmlcaaFlB
import Derived.Test.YtdbnbijillmlcaaFlU
namespace Go.Proofs.Ytdbnbijillmlcaa.flb
open Go Go.Sy Go.Sz Go.In Go.Fl Go.Proofs.Ytdbnbijillmlcaa
set_option linter.unusedVariables false
set_option linter.unusedSimpArgs false
set_option linter.constructorNameAsVariable false
set_option maxRecDepth 100000

def lawI (l : Slots) (i : Int) (r : Bools) (p : Parts) (q : Bools) : Prop := goodL l ∧ l.length ≤ 150 ∧ r = reachL l ∧ p = blocksL l ∧ 0 ≤ i ∧ q.length = l.length
/-- the last operation of a block ahead of a place -/
def lastIs (r : Bools) (f k : Int) : Int := if k = f then f else (prevR r k.toNat : Int)
theorem sec_bit {l : Slots} {k : Nat} : bitA (secs l) k = true ↔ k < l.length ∧ secB l k = true := by
  by_cases h : k < l.length
  · have e0 : bitA (secs l) k = secB l k := secs_get h
    rw [e0]; exact ⟨fun e => And.intro h e, fun e => e.2⟩
  · have : bitA (secs l) k = false := by
      unfold bitA; rw [List.getD_eq_getElem?_getD, List.getElem?_eq_none (by rw [secs_len]; omega)]; rfl
    rw [this]; exact ⟨fun e => Bool.noConfusion e, fun e => absurd e.1 h⟩
theorem set_keep {b : Bools} {i j : Nat} (h : bitA b j = true) : bitA (b.set i (true, ())) j = true := by
  by_cases hi : i < b.length
  · rw [bitA, getD_set _ _ _ _ _ hi]
    split
    · rfl
    · exact h
  · rw [List.set_eq_of_length_le (by omega)]; exact h
theorem set_does {b : Bools} {i : Nat} (h : i < b.length) : bitA (b.set i (true, ())) i = true := by
  rw [bitA, getD_set _ _ _ _ _ h, if_pos rfl]
theorem mark2_keep {l : Slots} {r b : Bools} {k j : Nat} (h : bitA b j = true) : bitA (mark2 l r b k) j = true := by
  unfold mark2
  cases bitA r k && (jmpB (opA l k) || opA l k == BitVec.ofInt 8 149)
  · exact h
  · cases opA l k == BitVec.ofInt 8 149
    · exact set_keep (set_keep h)
    · exact set_keep h
theorem mark2_does {l : Slots} {r b : Bools} {k : Nat} (hr : bitA r k = true) (ho : (jmpB (opA l k) || opA l k == BitVec.ofInt 8 149) = true) (h : k + 1 < b.length) : bitA (mark2 l r b k) (k + 1) = true := by
  unfold mark2
  rw [hr, ho]
  cases opA l k == BitVec.ofInt 8 149
  · exact set_keep (set_does h)
  · exact set_does h
theorem fold_keep {l : Slots} {r : Bools} {j : Nat} : ∀ (ks : List Nat) (b : Bools), bitA b j = true → bitA (ks.foldl (mark2 l r) b) j = true
  | [], b, h => h
  | k :: ks, b, h => fold_keep ks _ (mark2_keep h)
theorem fold_does {l : Slots} {r : Bools} {k : Nat} (hr : bitA r k = true) (ho : (jmpB (opA l k) || opA l k == BitVec.ofInt 8 149) = true) : ∀ (ks : List Nat) (b : Bools), k ∈ ks → k + 1 < b.length → bitA (ks.foldl (mark2 l r) b) (k + 1) = true
  | [], b, h, _ => by cases h
  | m :: ks, b, h, hl => by
    by_cases e : m = k
    · subst e; exact fold_keep ks _ (mark2_does hr ho hl)
    · rcases List.mem_cons.1 h with e' | e'
      · exact absurd e'.symm e
      · exact fold_does hr ho ks _ e' (by rw [mark2_len]; exact hl)
theorem beg_bit {l : Slots} {k : Nat} (hr : bitA (reachL l) k = true) (ho : (jmpB (opA l k) || opA l k == BitVec.ofInt 8 149) = true) (h : k < l.length) : bitA (begL l) (k + 1) = true := by
  unfold begL marks2
  refine fold_does hr ho _ _ ?_ (by rw [marks1_len, List.length_replicate]; omega)
  rw [List.drop_zero]; simpa using h
theorem blocks_hyp {l : Slots} (hg : goodL l) : BHyp (reachL l) (begL l) (secs l) (fun k => nextL l k) := by
  obtain ⟨hr1, hr2⟩ := reach_ok hg
  have hl := hg.2
  have step : ∀ k, secB l (k + 1) = (opA l k == BitVec.ofInt 8 24 && !secB l k) := fun k => rfl
  have good : ∀ k : Nat, bitA (reachL l) k = true → k < l.length ∧ secB l k = false := fun k hk => by
    obtain ⟨_, g2, g3⟩ := hr2 k hk
    exact ⟨by omega, g3⟩
  refine ⟨?_, fun k hk => ?_, fun k hk => ?_, fun k h1 h2 h3 h4 => ?_, fun k h1 h2 h3 => ?_⟩
  · exact secs0 l
  · obtain ⟨k1, k2⟩ := sec_bit.1 hk
    rw [step, Bool.and_eq_true] at k2
    rw [Bool.eq_false_iff]
    intro e
    rw [(sec_bit.1 e).2] at k2
    exact absurd k2.2 (by decide)
  · obtain ⟨k1, k2⟩ := sec_bit.1 hk
    rw [Bool.eq_false_iff]
    intro e
    rw [(good k e).2] at k2; cases k2
  · obtain ⟨g1, g2⟩ := good k h1
    obtain ⟨g3, g4⟩ := good (k + 1) h2
    have c24 : (opA l k == BitVec.ofInt 8 24) = false := by
      rw [step, g2] at g4
      simpa using g4
    have hb : (jmpB (opA l k) || opA l k == BitVec.ofInt 8 149) = false := by
      rw [Bool.eq_false_iff]
      intro e
      rw [beg_bit h1 e g1] at h4; cases h4
    rw [Bool.or_eq_false_iff] at hb
    unfold nextL
    rw [show ((k : Int)).toNat = k from rfl, hb.2, c24, hb.1, wrap64 (n := (k : Int) + 1) (by omega) (by omega)]; rfl
  · obtain ⟨g1, g2⟩ := good k h1
    obtain ⟨g3, g4⟩ := good (k + 2) h3
    obtain ⟨k1, k2⟩ := sec_bit.1 h2
    have c24 : (opA l k == BitVec.ofInt 8 24) = true := by
      rw [step, Bool.and_eq_true] at k2; exact k2.1
    have c149 : (opA l k == BitVec.ofInt 8 149) = false := by
      have hx : ∀ x : BitVec 8, (x == BitVec.ofInt 8 24) = true → (x == BitVec.ofInt 8 149) = false := by decide +kernel
      exact hx _ c24
    show nextL l k = _
    unfold nextL
    rw [show ((k : Int)).toNat = k from rfl, c149, c24, wrap64 (n := (k : Int) + 2) (by omega) (by omega)]; rfl
theorem blocks_ok {l : Slots} (hg : goodL l) : ∃ y, BInv (reachL l) (secs l) (fun k => nextL l k) (blocksL l) y l.length := blocks_inv (blocks_hyp hg) l.length
noncomputable abbrev c_law : Code := Try.f3.body.getD .skip
def p_law1 : List Nat := [0, 1, 0, 1, 1, 1, 1, 1, 1, 1]
def sh_law1 : Shape := ⟨[(0, .c (.d insT)), (3, .c (.h 0)), (5, .c (.h 1)), (7, .c (.h 2)), (8, .c (.i .i64))], [.row boolsT, .row partsT, .row boolsT]⟩
@[reducible] def A_law1 : Type := Slots × Int × Bools × Parts × Bools
def e_law1 : A_law1 → sh_law1.den := fun ⟨l, i, r, p, q⟩ => ((l, (), (), (), i, ()), (r, p, q, ()))
def v_law1 : sh_law1.den → A_law1 := fun d => match d with
  | ((l, (), (), (), i, ()), (r, p, q, ())) => (l, i, r, p, q)
def I_law1 : A_law1 → Prop := fun ⟨l, i, r, p, q⟩ => lawI l i r p q
noncomputable def G_law1 : A_law1 → Tree (Ex × St) := fun ⟨l, i, r, p, q⟩ => .ret (.exit 0, ⟨[(3, .p (.one (.h 0))), (7, .p (.one (.h 1)))], [(0, .row boolsT (r)), (1, .row boolsT (marksB r (p.drop i.toNat) q))], 2⟩)
noncomputable def orc_law1 : Orc := ⟨sh_law1, [(3, boolsT), (5, partsT)], [2, 3, 7], [], fun d => ckP (I_law1 (v_law1 d)) (G_law1 (v_law1 d))⟩
def p_law2 : List Nat := [0, 1, 1, 1, 0, 0, 1, 0, 0, 1, 0, 1, 1, 1, 1, 1, 1, 1]
def sh_law2 : Shape := ⟨[(0, .c (.d insT)), (3, .c (.h 0)), (5, .c (.h 1)), (7, .c (.h 2)), (8, .c (.i .i64)), (9, .c (.i .i64)), (10, .c (.i .i64))], [.row boolsT, .row partsT, .row boolsT]⟩
@[reducible] def A_law2 : Type := Slots × Int × Bools × Parts × Bools × Int × Int
def e_law2 : A_law2 → sh_law2.den := fun ⟨l, i, r, p, q, t, k⟩ => ((l, (), (), (), i, t, k, ()), (r, p, q, ()))
def v_law2 : sh_law2.den → A_law2 := fun d => match d with
  | ((l, (), (), (), i, t, k, ()), (r, p, q, ())) => (l, i, r, p, q, t, k)
def I_law2 : A_law2 → Prop := fun ⟨l, i, r, p, q, t, k⟩ => lawI l i r p q ∧ i < p.length ∧ (In.partOf p i.toNat).1 ≤ k ∧ k ≤ (In.partOf p i.toNat).2.1 ∧ t = lastIs r (In.partOf p i.toNat).1 k
noncomputable def G_law2 : A_law2 → Tree (Ex × St) := fun ⟨l, i, r, p, q, t, k⟩ => .ret (.exit 2, ⟨[(0, .p (.one (.d insT l))), (3, .p (.one (.h 0))), (5, .p (.one (.h 1))), (7, .p (.one (.h 2))), (8, .p (.one (.v (.int .i64 i))))], [(0, .row boolsT (r)), (1, .row partsT (p)), (2, .row boolsT (markR r ((In.partOf p i.toNat).2.1 - k).toNat k.toNat q))], 3⟩)
noncomputable def orc_law2 : Orc := ⟨sh_law2, [(3, boolsT), (5, partsT)], [0, 2, 3, 5, 7, 8], [], fun d => ckP (I_law2 (v_law2 d)) (G_law2 (v_law2 d))⟩
noncomputable def LT_law : LT := oneL p_law1 orc_law1 (oneL p_law2 orc_law2 (noL))
noncomputable def T_law2 : Slots × Int × Bools × Parts × Bools × Int × Int → Tree (A_law2 ⊕ (Ex × St)) := fun ⟨l, i, r, p, q, t, k⟩ => 
Tree.ite (decide ((0 : Int) ≤ i) && decide (i < (↑(List.length p) : Int))) (Tree.ite (decide (k < (List.getD p i.toNat ((0 : Int), (0 : Int), ())).snd.fst)) (Tree.ite (decide ((0 : Int) ≤ k) && decide (k < (↑(List.length r) : Int))) (Tree.ite (List.getD r k.toNat (false, ())).fst (Tree.ite (decide ((0 : Int) ≤ k) && decide (k < (↑(List.length q) : Int))) (Tree.ite (decide ((0 : Int) ≤ i) && decide (i < (↑(List.length p) : Int))) (Tree.ite (decide ((List.getD p i.toNat ((0 : Int), (0 : Int), ())).fst < k)) (Tree.ite (decC (List.length l ≤ (140737488355328 : Nat))) (Tree.ite ((chk l).snd == (0 : Int)) (Tree.ite (decide ((0 : Int) ≤ t) && (decide (t < (↑(List.length l) : Int)) && !secB l t.toNat)) (Tree.ite (!(↑(List.length (nextL l t)) : Int) != (1 : Int)) (Tree.ite (true && decide ((0 : Int) < (↑(List.length (nextL l t)) : Int))) (Tree.ite ((List.getD (nextL l t) (0 : Nat) ((0 : Int), ())).fst != k) (Tree.ret (Sum.inr (Ex.ret, { env := [((0 : Nat), AV.p (Part.one (Cell.d insT l))), ((2 : Nat), AV.p (Part.one (Cell.v (Value.bool false)))), ((3 : Nat), AV.p (Part.one (Cell.h (0 : Nat)))), ((5 : Nat), AV.p (Part.one (Cell.h (1 : Nat)))), ((7 : Nat), AV.p (Part.one (Cell.h (2 : Nat)))), ((8 : Nat), AV.p (Part.one (Cell.v (Value.int IntKind.i64 i))))], hp := [((0 : Nat), Ob.row boolsT r), ((1 : Nat), Ob.row partsT p), ((2 : Nat), Ob.row boolsT (List.set q k.toNat (true, (List.getD q k.toNat (false, ())).snd)))], nx := (3 : Nat) }))) (Tree.ret (Sum.inl (l, i, r, p, List.set q k.toNat (true, (List.getD q k.toNat (false, ())).snd), k, IntKind.i64.wrap (k + (1 : Int)))))) Tree.fail) (Tree.ret (Sum.inr (Ex.ret, { env := [((0 : Nat), AV.p (Part.one (Cell.d insT l))), ((2 : Nat), AV.p (Part.one (Cell.v (Value.bool false)))), ((3 : Nat), AV.p (Part.one (Cell.h (0 : Nat)))), ((5 : Nat), AV.p (Part.one (Cell.h (1 : Nat)))), ((7 : Nat), AV.p (Part.one (Cell.h (2 : Nat)))), ((8 : Nat), AV.p (Part.one (Cell.v (Value.int IntKind.i64 i))))], hp := [((0 : Nat), Ob.row boolsT r), ((1 : Nat), Ob.row partsT p), ((2 : Nat), Ob.row boolsT (List.set q k.toNat (true, (List.getD q k.toNat (false, ())).snd)))], nx := (3 : Nat) })))) (Tree.ret (Sum.inr (Ex.ret, { env := [((0 : Nat), AV.p (Part.one (Cell.d insT l))), ((2 : Nat), AV.p (Part.one (Cell.v (Value.bool false)))), ((3 : Nat), AV.p (Part.one (Cell.h (0 : Nat)))), ((5 : Nat), AV.p (Part.one (Cell.h (1 : Nat)))), ((7 : Nat), AV.p (Part.one (Cell.h (2 : Nat)))), ((8 : Nat), AV.p (Part.one (Cell.v (Value.int IntKind.i64 i))))], hp := [((0 : Nat), Ob.row boolsT r), ((1 : Nat), Ob.row partsT p), ((2 : Nat), Ob.row boolsT (List.set q k.toNat (true, (List.getD q k.toNat (false, ())).snd)))], nx := (3 : Nat) })))) (Tree.ite (!(chk l).snd != (0 : Int)) (Tree.ret (Sum.inr (Ex.ret, { env := [((0 : Nat), AV.p (Part.one (Cell.d insT l))), ((2 : Nat), AV.p (Part.one (Cell.v (Value.bool false)))), ((3 : Nat), AV.p (Part.one (Cell.h (0 : Nat)))), ((5 : Nat), AV.p (Part.one (Cell.h (1 : Nat)))), ((7 : Nat), AV.p (Part.one (Cell.h (2 : Nat)))), ((8 : Nat), AV.p (Part.one (Cell.v (Value.int IntKind.i64 i))))], hp := [((0 : Nat), Ob.row boolsT r), ((1 : Nat), Ob.row partsT p), ((2 : Nat), Ob.row boolsT (List.set q k.toNat (true, (List.getD q k.toNat (false, ())).snd)))], nx := (3 : Nat) }))) (Tree.ret (Sum.inr (Ex.ret, { env := [((0 : Nat), AV.p (Part.one (Cell.d insT l))), ((2 : Nat), AV.p (Part.one (Cell.v (Value.bool false)))), ((3 : Nat), AV.p (Part.one (Cell.h (0 : Nat)))), ((5 : Nat), AV.p (Part.one (Cell.h (1 : Nat)))), ((7 : Nat), AV.p (Part.one (Cell.h (2 : Nat)))), ((8 : Nat), AV.p (Part.one (Cell.v (Value.int IntKind.i64 i))))], hp := [((0 : Nat), Ob.row boolsT r), ((1 : Nat), Ob.row partsT p), ((2 : Nat), Ob.row boolsT (List.set q k.toNat (true, (List.getD q k.toNat (false, ())).snd)))], nx := (3 : Nat) }))))) Tree.fail) (Tree.ret (Sum.inl (l, i, r, p, List.set q k.toNat (true, (List.getD q k.toNat (false, ())).snd), k, IntKind.i64.wrap (k + (1 : Int)))))) Tree.fail) Tree.fail) (Tree.ret (Sum.inl (l, i, r, p, q, t, IntKind.i64.wrap (k + (1 : Int)))))) Tree.fail) (Tree.ret (Sum.inr (Ex.exit (2 : Nat), { env := [((0 : Nat), AV.p (Part.one (Cell.d insT l))), ((3 : Nat), AV.p (Part.one (Cell.h (0 : Nat)))), ((5 : Nat), AV.p (Part.one (Cell.h (1 : Nat)))), ((7 : Nat), AV.p (Part.one (Cell.h (2 : Nat)))), ((8 : Nat), AV.p (Part.one (Cell.v (Value.int IntKind.i64 i))))], hp := [((0 : Nat), Ob.row boolsT r), ((1 : Nat), Ob.row partsT p), ((2 : Nat), Ob.row boolsT q)], nx := (3 : Nat) })))) Tree.fail
theorem turn_law2 : ∀ a : A_law2, (turnT 0 orc_law2 (evalCode Try.prog (lk L_bools) Try.f3.ntmps 0 30 LT_law (bodyAt c_law p_law2) false (0 :: p_law2)) (sh_law2.enc (e_law2 a))).run = ((T_law2 a).bind fun s => .ret (turnV sh_law2 e_law2 s)).run := by
  rintro ⟨l, i, r, p, q, t, k⟩
  kernel_rfl

def μ_law2 : A_law2 → Nat := fun ⟨l, i, r, p, q, t, k⟩ => ((In.partOf p i.toNat).2.1 - k).toNat
theorem step_law2 : ∀ a : A_law2, I_law2 a → (∃ a', (T_law2 a).run = some (.inl a') ∧ I_law2 a' ∧ μ_law2 a' < μ_law2 a ∧ (G_law2 a').run = (G_law2 a).run) ∨ (∃ y, (T_law2 a).run = some (.inr y) ∧ (G_law2 a).run = some y ∧ ((∃ id, y.1 = .exit id) ∨ y.1 = .ret)) := by
  rintro ⟨l, i, r, p, q, t, k⟩ ⟨⟨hg, h150, rfl, rfl, h1, hq⟩, h2, h3, h4, rfl⟩
  simp only [T_law2]
  obtain ⟨y, h⟩ := blocks_ok hg
  obtain ⟨hr1, hr2⟩ := reach_ok hg
  have bi : 0 ≤ i ∧ i < ((blocksL l).length : Int) := ⟨h1, h2⟩
  obtain ⟨u1, u2, u3⟩ := h.up i.toNat (by omega)
  have hfirst := h.first i.toNat (by omega)
  have hchain := h.chain i.toNat (by omega) k.toNat
  have hP : (blocksL l).getD i.toNat (0, 0, ()) = In.partOf (blocksL l) i.toNat := rfl
  rw [hP, goTa bi]
  generalize hPB : In.partOf (blocksL l) i.toNat = B at *
  by_cases hk : k < B.2.1
  · left
    have hk0 : ((k.toNat : Nat) : Int) = k := by omega
    have hs : (B.2.1 - k).toNat = (B.2.1 - (k + 1)).toNat + 1 := by omega
    have hnext : lastIs (reachL l) B.1 (k + 1) = bif bitA (reachL l) k.toNat then k else (prevR (reachL l) k.toNat : Int) := by
      unfold lastIs
      rw [if_neg (by omega), toNat_up (by omega)]
      rw [prevR_up]
      cases bitA (reachL l) k.toNat
      · rfl
      · exact hk0
    have hmk : markR (reachL l) (B.2.1 - k).toNat k.toNat q = markR (reachL l) (B.2.1 - (k + 1)).toNat (k + 1).toNat (bif bitA (reachL l) k.toNat then q.set k.toNat (true, ()) else q) := by
      rw [hs, markR_up, toNat_up (by omega)]
    have fin : ∀ T : Tree (A_law2 ⊕ (Ex × St)), T.run = some (.inl (l, i, reachL l, blocksL l, (bif bitA (reachL l) k.toNat then q.set k.toNat (true, ()) else q), (bif bitA (reachL l) k.toNat then k else lastIs (reachL l) B.1 k), k + 1)) → (B.1 = k → bitA (reachL l) k.toNat = true) →
        (∃ a', T.run = some (.inl a') ∧ I_law2 a' ∧ μ_law2 a' < μ_law2 (l, i, reachL l, blocksL l, q, lastIs (reachL l) B.1 k, k) ∧ (G_law2 a').run = (G_law2 (l, i, reachL l, blocksL l, q, lastIs (reachL l) B.1 k, k)).run) := fun T hT hB => by
      refine ⟨_, hT, ⟨⟨hg, h150, rfl, rfl, h1, ?_⟩, h2, ?_, ?_, ?_⟩, ?_, ?_⟩
      · cases bitA (reachL l) k.toNat
        · exact hq
        · exact List.length_set.trans hq
      · rw [hPB]; omega
      · rw [hPB]; omega
      · rw [hPB, hnext]
        cases c : bitA (reachL l) k.toNat with
        | true => rfl
        | false =>
          show lastIs (reachL l) B.1 k = _
          unfold lastIs
          rw [if_neg fun e => by have := hB e.symm; rw [c] at this; cases this]; rfl
      · simp only [μ_law2]; rw [hPB]; omega
      · simp only [G_law2, Tree.run]
        rw [hPB, hmk]
    rw [goTd hk, goTa ⟨by omega, by omega⟩, wrap64 (n := k + 1) (by omega) (by omega)]
    cases c : ((reachL l).getD k.toNat (false, ())).1 with
    | false =>
      have c' : bitA (reachL l) k.toNat = false := c
      rw [c'] at fin
      refine fin _ (goF rfl) fun e => ?_
      rw [← e, hfirst] at c'; cases c'
    | true =>
      have c' : bitA (reachL l) k.toNat = true := c
      rw [c'] at fin
      rw [goT rfl, goTa ⟨by omega, by omega⟩, goTa bi]
      by_cases hF : B.1 < k
      · have hch := hchain (by omega) (by omega) c'
        have hhit := prevR_hit (r := reachL l) (k := k.toNat) (m := B.1.toNat) (by omega) hfirst
        obtain ⟨g1, g2, g3⟩ := hr2 _ hhit
        have ht : lastIs (reachL l) B.1 k = (prevR (reachL l) k.toNat : Int) := by unfold lastIs; rw [if_neg (by omega)]
        rw [goTd hF, goT (decP (by omega)), goTe hg.1, ht, goT (by rw [decide_eq_true g1, decide_eq_true g2, g3]; rfl), hch, goT (by rfl), goT (by rfl), goFne (by exact hk0)]
        rw [ht] at fin
        exact fin _ rfl fun _ => rfl
      · rw [goFd hF]
        exact fin _ rfl fun _ => rfl
  · right
    rw [goFd hk]
    refine ⟨_, rfl, ?_, .inl ⟨2, rfl⟩⟩
    simp only [G_law2, Tree.run]
    rw [hPB, show (B.2.1 - k).toNat = 0 by omega]; rfl
noncomputable def T_law1 : Slots × Int × Bools × Parts × Bools → Tree (A_law1 ⊕ (Ex × St)) := fun ⟨l, i, r, p, q⟩ => 
Tree.ite (decide (i < (↑(List.length p) : Int))) (Tree.ite (decide ((0 : Int) ≤ i) && decide (i < (↑(List.length p) : Int))) (Tree.ite (!decide ((List.getD p i.toNat ((0 : Int), (0 : Int), ())).fst < (0 : Int))) (Tree.ite (decide ((0 : Int) ≤ i) && decide (i < (↑(List.length p) : Int))) (Tree.ite (decide ((0 : Int) ≤ i) && decide (i < (↑(List.length p) : Int))) (Tree.ite (!decide ((List.getD p i.toNat ((0 : Int), (0 : Int), ())).snd.fst ≤ (List.getD p i.toNat ((0 : Int), (0 : Int), ())).fst)) (Tree.ite (decide ((0 : Int) ≤ i) && decide (i < (↑(List.length p) : Int))) (Tree.ite (!decide ((↑(List.length l) : Int) < (List.getD p i.toNat ((0 : Int), (0 : Int), ())).snd.fst)) (Tree.ite (decide ((0 : Int) < i)) (Tree.ite (decide ((0 : Int) ≤ IntKind.i64.wrap (i - (1 : Int))) && decide (IntKind.i64.wrap (i - (1 : Int)) < (↑(List.length p) : Int))) (Tree.ite (decide ((0 : Int) ≤ i) && decide (i < (↑(List.length p) : Int))) (Tree.ite (decide ((List.getD p i.toNat ((0 : Int), (0 : Int), ())).fst < (List.getD p (IntKind.i64.wrap (i - (1 : Int))).toNat ((0 : Int), (0 : Int), ())).snd.fst)) (Tree.ret (Sum.inr (Ex.ret, { env := [((2 : Nat), AV.p (Part.one (Cell.v (Value.bool false)))), ((3 : Nat), AV.p (Part.one (Cell.h (0 : Nat)))), ((7 : Nat), AV.p (Part.one (Cell.h (1 : Nat))))], hp := [((0 : Nat), Ob.row boolsT r), ((1 : Nat), Ob.row boolsT q)], nx := (2 : Nat) }))) (Tree.ite (decide ((0 : Int) ≤ i) && decide (i < (↑(List.length p) : Int))) (Tree.ite (decide ((0 : Int) ≤ i) && decide (i < (↑(List.length p) : Int))) (Tree.ite (decC (lawI l i r p q ∧ i < (↑(List.length p) : Int) ∧ (In.partOf p i.toNat).fst ≤ (List.getD p i.toNat ((0 : Int), (0 : Int), ())).fst ∧ (List.getD p i.toNat ((0 : Int), (0 : Int), ())).fst ≤ (In.partOf p i.toNat).snd.fst ∧ (List.getD p i.toNat ((0 : Int), (0 : Int), ())).fst = lastIs r (In.partOf p i.toNat).fst (List.getD p i.toNat ((0 : Int), (0 : Int), ())).fst)) (Tree.ret (Sum.inl (l, IntKind.i64.wrap (i + (1 : Int)), r, p, markR r ((In.partOf p i.toNat).snd.fst - (List.getD p i.toNat ((0 : Int), (0 : Int), ())).fst).toNat (Int.toNat (List.getD p i.toNat ((0 : Int), (0 : Int), ())).fst) q))) Tree.fail) Tree.fail) Tree.fail)) Tree.fail) Tree.fail) (Tree.ite (decide ((0 : Int) ≤ i) && decide (i < (↑(List.length p) : Int))) (Tree.ite (decide ((0 : Int) ≤ i) && decide (i < (↑(List.length p) : Int))) (Tree.ite (decC (lawI l i r p q ∧ i < (↑(List.length p) : Int) ∧ (In.partOf p i.toNat).fst ≤ (List.getD p i.toNat ((0 : Int), (0 : Int), ())).fst ∧ (List.getD p i.toNat ((0 : Int), (0 : Int), ())).fst ≤ (In.partOf p i.toNat).snd.fst ∧ (List.getD p i.toNat ((0 : Int), (0 : Int), ())).fst = lastIs r (In.partOf p i.toNat).fst (List.getD p i.toNat ((0 : Int), (0 : Int), ())).fst)) (Tree.ret (Sum.inl (l, IntKind.i64.wrap (i + (1 : Int)), r, p, markR r ((In.partOf p i.toNat).snd.fst - (List.getD p i.toNat ((0 : Int), (0 : Int), ())).fst).toNat (Int.toNat (List.getD p i.toNat ((0 : Int), (0 : Int), ())).fst) q))) Tree.fail) Tree.fail) Tree.fail)) (Tree.ret (Sum.inr (Ex.ret, { env := [((2 : Nat), AV.p (Part.one (Cell.v (Value.bool false)))), ((3 : Nat), AV.p (Part.one (Cell.h (0 : Nat)))), ((7 : Nat), AV.p (Part.one (Cell.h (1 : Nat))))], hp := [((0 : Nat), Ob.row boolsT r), ((1 : Nat), Ob.row boolsT q)], nx := (2 : Nat) })))) Tree.fail) (Tree.ret (Sum.inr (Ex.ret, { env := [((2 : Nat), AV.p (Part.one (Cell.v (Value.bool false)))), ((3 : Nat), AV.p (Part.one (Cell.h (0 : Nat)))), ((7 : Nat), AV.p (Part.one (Cell.h (1 : Nat))))], hp := [((0 : Nat), Ob.row boolsT r), ((1 : Nat), Ob.row boolsT q)], nx := (2 : Nat) })))) Tree.fail) Tree.fail) (Tree.ret (Sum.inr (Ex.ret, { env := [((2 : Nat), AV.p (Part.one (Cell.v (Value.bool false)))), ((3 : Nat), AV.p (Part.one (Cell.h (0 : Nat)))), ((7 : Nat), AV.p (Part.one (Cell.h (1 : Nat))))], hp := [((0 : Nat), Ob.row boolsT r), ((1 : Nat), Ob.row boolsT q)], nx := (2 : Nat) })))) Tree.fail) (Tree.ret (Sum.inr (Ex.exit (0 : Nat), { env := [((3 : Nat), AV.p (Part.one (Cell.h (0 : Nat)))), ((7 : Nat), AV.p (Part.one (Cell.h (1 : Nat))))], hp := [((0 : Nat), Ob.row boolsT r), ((1 : Nat), Ob.row boolsT q)], nx := (2 : Nat) })))
theorem turn_law1 : ∀ a : A_law1, (turnT 0 orc_law1 (evalCode Try.prog (lk L_bools) Try.f3.ntmps 0 30 LT_law (bodyAt c_law p_law1) false (0 :: p_law1)) (sh_law1.enc (e_law1 a))).run = ((T_law1 a).bind fun s => .ret (turnV sh_law1 e_law1 s)).run := by
  rintro ⟨l, i, r, p, q⟩
  kernel_rfl

def μ_law1 : A_law1 → Nat := fun ⟨l, i, r, p, q⟩ => p.length - i.toNat
theorem step_law1 : ∀ a : A_law1, I_law1 a → (∃ a', (T_law1 a).run = some (.inl a') ∧ I_law1 a' ∧ μ_law1 a' < μ_law1 a ∧ (G_law1 a').run = (G_law1 a).run) ∨ (∃ y, (T_law1 a).run = some (.inr y) ∧ (G_law1 a).run = some y ∧ ((∃ id, y.1 = .exit id) ∨ y.1 = .ret)) := by
  rintro ⟨l, i, r, p, q⟩ ⟨hg, h150, rfl, rfl, h1, hq⟩
  simp only [T_law1]
  obtain ⟨y, h⟩ := blocks_ok hg
  by_cases hi : i < (blocksL l).length
  · left
    have bi : 0 ≤ i ∧ i < ((blocksL l).length : Int) := ⟨h1, hi⟩
    obtain ⟨u1, u2, u3⟩ := h.up i.toNat (by omega)
    have hfew := h.few
    have hr : 0 < i → (In.partOf (blocksL l) (i.toNat - 1)).2.1 ≤ (In.partOf (blocksL l) i.toNat).1 := fun h0 => by
      have hr := h.rise (i.toNat - 1) (by omega)
      rw [show i.toNat - 1 + 1 = i.toNat by omega] at hr
      exact hr
    have hP : ∀ j, (blocksL l).getD j (0, 0, ()) = In.partOf (blocksL l) j := fun _ => rfl
    have hm : ∀ T : Tree (A_law1 ⊕ (Ex × St)), T.run = some (.inl (l, i + 1, reachL l, blocksL l, markR (reachL l) ((In.partOf (blocksL l) i.toNat).2.1 - (In.partOf (blocksL l) i.toNat).1).toNat (In.partOf (blocksL l) i.toNat).1.toNat q)) →
        (∃ a', T.run = some (.inl a') ∧ I_law1 a' ∧ μ_law1 a' < μ_law1 (l, i, reachL l, blocksL l, q) ∧ (G_law1 a').run = (G_law1 (l, i, reachL l, blocksL l, q)).run) := fun T hT => by
      refine ⟨_, hT, ⟨hg, h150, rfl, rfl, by omega, by rw [markR_len]; exact hq⟩, by simp only [μ_law1]; omega, ?_⟩
      simp only [G_law1, Tree.run]
      rw [toNat_succ h1, drop_cons (l := blocksL l) (i := i.toNat) (by omega) (0, 0, ())]; rfl
    have hc : lawI l i (reachL l) (blocksL l) q ∧ i < ((blocksL l).length : Int) ∧ (In.partOf (blocksL l) i.toNat).1 ≤ (In.partOf (blocksL l) i.toNat).1 ∧ (In.partOf (blocksL l) i.toNat).1 ≤ (In.partOf (blocksL l) i.toNat).2.1 ∧ (In.partOf (blocksL l) i.toNat).1 = lastIs (reachL l) (In.partOf (blocksL l) i.toNat).1 (In.partOf (blocksL l) i.toNat).1 :=
      ⟨⟨hg, h150, rfl, rfl, h1, hq⟩, hi, Int.le_refl _, by omega, by unfold lastIs; rw [if_pos rfl]⟩
    rw [hP, hP, goTd hi, goTa bi, goTn (by omega), goTa bi, goTa bi, goTn (by omega), goTa bi, goTn (by omega), wrap64 (n := i + 1) (by omega) (by omega)]
    by_cases h0 : 0 < i
    · have hr := hr h0
      rw [goTd h0, wrap64 (n := i - 1) (by omega) (by omega), goTa ⟨by omega, by omega⟩, goTa bi, show (i - 1).toNat = i.toNat - 1 by omega, goFd (by omega), goTa bi, goTa bi]
      exact hm _ ((goT (decP hc)).trans rfl)
    · rw [goFd h0, goTa bi, goTa bi]
      exact hm _ ((goT (decP hc)).trans rfl)
  · right
    rw [goFd hi]
    refine ⟨_, rfl, ?_, .inl ⟨0, rfl⟩⟩
    simp only [G_law1, Tree.run]
    rw [drop_end (by omega)]; rfl
theorem lok_law : LOk Try.prog (lk L_bools) Try.f3.ntmps 0 30 LT_law c_law := lok_view (lok_view (noL_ok2 _ _ _ _ _ _ _) (by kernel_rfl) e_law2 (by rintro ⟨⟨l, ⟨⟩, ⟨⟩, ⟨⟩, i, t, k, ⟨⟩⟩, ⟨r, p, q, ⟨⟩⟩⟩; exact ⟨(l, i, r, p, q, t, k), rfl⟩) T_law2 turn_law2 I_law2 G_law2 (by rintro ⟨l, i, r, p, q, t, k⟩; rfl) μ_law2 step_law2) (by kernel_rfl) e_law1 (by rintro ⟨⟨l, ⟨⟩, ⟨⟩, ⟨⟩, i, ⟨⟩⟩, ⟨r, p, q, ⟨⟩⟩⟩; exact ⟨(l, i, r, p, q), rfl⟩) T_law1 turn_law1 I_law1 G_law1 (by rintro ⟨l, i, r, p, q⟩; rfl) μ_law1 step_law1
noncomputable def E_law : Slots → Tree (AV × List Ob) := fun l => 
Tree.ite (decide ((150 : Int) < (↑(List.length l) : Int))) (Tree.ret (AV.p (Part.one (Cell.v (Value.bool true))), [])) (Tree.ite (decC (List.length l ≤ (1000 : Nat))) (Tree.ite ((chk l).snd == (0 : Int)) (Tree.ite (decC (List.length l ≤ (1000 : Nat))) (Tree.ite ((chk l).snd == (0 : Int)) (Tree.ite (decide ((0 : Int) ≤ (↑(List.length l) : Int)) && (decide ((↑(List.length l) : Int) ≤ (↑(List.length l) : Int)) && (decide ((↑(List.length l) : Int) ≤ (140737488355328 : Int)) && bytesOk (↑(List.length l) : Int).toNat (1 : Nat)))) (Tree.ite (decC (lawI l (0 : Int) (reachL l) (blocksL l) (List.replicate (↑(List.length l) : Int).toNat (false, ())))) (Tree.ite (decC (List.length (marksB (reachL l) (List.drop (0 : Nat) (blocksL l)) (List.replicate (↑(List.length l) : Int).toNat (false, ()))) ≤ (1000000 : Nat) ∧ List.length (reachL l) ≤ (1000000 : Nat))) (Tree.ret (AV.p (Part.one (Cell.v (Value.bool (decide (marksB (reachL l) (List.drop (0 : Nat) (blocksL l)) (List.replicate (↑(List.length l) : Int).toNat (false, ())) = reachL l))))), [])) Tree.fail) Tree.fail) Tree.fail) (Tree.ite (!(0 : Int) != (chk l).snd) (Tree.ite (decide ((0 : Int) ≤ (↑(List.length l) : Int)) && (decide ((↑(List.length l) : Int) ≤ (↑(List.length l) : Int)) && (decide ((↑(List.length l) : Int) ≤ (140737488355328 : Int)) && bytesOk (↑(List.length l) : Int).toNat (1 : Nat)))) (Tree.ite (decC (lawI l (0 : Int) (reachL l) [] (List.replicate (↑(List.length l) : Int).toNat (false, ())))) (Tree.ite (decC (List.length (marksB (reachL l) (List.drop (0 : Nat) []) (List.replicate (↑(List.length l) : Int).toNat (false, ()))) ≤ (1000000 : Nat) ∧ List.length (reachL l) ≤ (1000000 : Nat))) (Tree.ret (AV.p (Part.one (Cell.v (Value.bool (decide (marksB (reachL l) (List.drop (0 : Nat) []) (List.replicate (↑(List.length l) : Int).toNat (false, ())) = reachL l))))), [])) Tree.fail) Tree.fail) Tree.fail) (Tree.ite ((0 : Int) == (chk l).snd) (Tree.ret (AV.p (Part.one (Cell.v (Value.bool true))), [])) (Tree.ret (AV.p (Part.one (Cell.v (Value.bool false))), []))))) Tree.fail) (Tree.ite (decC (List.length l ≤ (1000 : Nat))) (Tree.ite ((chk l).snd == (0 : Int)) (Tree.ite (!(chk l).snd != (0 : Int)) (Tree.ite ((chk l).snd != (0 : Int)) (Tree.ite ((chk l).snd == (0 : Int)) (Tree.ret (AV.p (Part.one (Cell.v (Value.bool ((↑(List.length (blocksL l)) : Int) == (0 : Int))))), [])) (Tree.ret (AV.p (Part.one (Cell.v (Value.bool false))), []))) (Tree.ite (decide ((0 : Int) ≤ (↑(List.length l) : Int)) && (decide ((↑(List.length l) : Int) ≤ (↑(List.length l) : Int)) && (decide ((↑(List.length l) : Int) ≤ (140737488355328 : Int)) && bytesOk (↑(List.length l) : Int).toNat (1 : Nat)))) (Tree.ite (decC (lawI l (0 : Int) [] (blocksL l) (List.replicate (↑(List.length l) : Int).toNat (false, ())))) (Tree.ite (decC (List.length (marksB [] (List.drop (0 : Nat) (blocksL l)) (List.replicate (↑(List.length l) : Int).toNat (false, ()))) ≤ (1000000 : Nat) ∧ (0 : Nat) ≤ (1000000 : Nat))) (Tree.ret (AV.p (Part.one (Cell.v (Value.bool (decide (marksB [] (List.drop (0 : Nat) (blocksL l)) (List.replicate (↑(List.length l) : Int).toNat (false, ())) = []))))), [])) Tree.fail) Tree.fail) Tree.fail)) (Tree.ite ((chk l).snd == (0 : Int)) (Tree.ret (AV.p (Part.one (Cell.v (Value.bool ((↑(List.length (blocksL l)) : Int) == (0 : Int))))), [])) (Tree.ret (AV.p (Part.one (Cell.v (Value.bool false))), [])))) (Tree.ite (!(chk l).snd != (chk l).snd) (Tree.ite ((chk l).snd != (0 : Int)) (Tree.ite ((chk l).snd == (chk l).snd) (Tree.ret (AV.p (Part.one (Cell.v (Value.bool true))), [])) (Tree.ret (AV.p (Part.one (Cell.v (Value.bool false))), []))) (Tree.ite (decide ((0 : Int) ≤ (↑(List.length l) : Int)) && (decide ((↑(List.length l) : Int) ≤ (↑(List.length l) : Int)) && (decide ((↑(List.length l) : Int) ≤ (140737488355328 : Int)) && bytesOk (↑(List.length l) : Int).toNat (1 : Nat)))) (Tree.ite (decC (lawI l (0 : Int) [] [] (List.replicate (↑(List.length l) : Int).toNat (false, ())))) (Tree.ite (decC (List.length (marksB [] (List.drop (0 : Nat) []) (List.replicate (↑(List.length l) : Int).toNat (false, ()))) ≤ (1000000 : Nat) ∧ (0 : Nat) ≤ (1000000 : Nat))) (Tree.ret (AV.p (Part.one (Cell.v (Value.bool (decide (marksB [] (List.drop (0 : Nat) []) (List.replicate (↑(List.length l) : Int).toNat (false, ())) = []))))), [])) Tree.fail) Tree.fail) Tree.fail)) (Tree.ite ((chk l).snd == (chk l).snd) (Tree.ret (AV.p (Part.one (Cell.v (Value.bool true))), [])) (Tree.ret (AV.p (Part.one (Cell.v (Value.bool false))), []))))) Tree.fail)) Tree.fail)
theorem ev_law (l : Slots) : (evalFnL Try.prog (lk L_bools) 30 LT_law Try.f3 c_law [] [.p (.one (.d insT l))] []).run = (E_law l).run := by kernel_rfl

theorem true_law (l : Slots) (hok : okS [.one (.sl insT)] (l, ())) : (E_law l).run = some (AV.b true, []) := by
  dsimp only [E_law, List.drop]
  by_cases g1 : 150 < l.length
  · exact goTd (by omega)
  refine (goFd (by omega)).trans ((goT (decP (by omega))).trans ?_)
  by_cases g : (chk l).2 = 0
  · have hg : goodL l := ⟨g, by omega⟩
    obtain ⟨hr1, hr2⟩ := reach_ok hg
    obtain ⟨y, h⟩ := blocks_ok hg
    have hall := marks_all h hr1
    refine (goTe g).trans ((goT (decP (by omega))).trans ((goTe g).trans ((goT ?_).trans ((goT (decP ⟨hg, by omega, rfl, rfl, Int.le_refl 0, by simp⟩)).trans ((goT (decP ⟨?_, by omega⟩)).trans ?_)))))
    · rw [bytesOk_dec, decide_eq_true (by omega), decide_eq_true (by omega), decide_eq_true (by omega), decide_eq_true (by omega)]; rfl
    rotate_left
    · rw [marksB_len, List.length_replicate]; omega
    · show some (AV.b (decide (marksB (reachL l) (blocksL l) (List.replicate l.length (false, ())) = reachL l)), ([] : List Ob)) = some (AV.b true, [])
      rw [decide_eq_true hall]
  · exact (goFe g).trans ((goT (decP (by omega))).trans ((goFe g).trans ((goT (by simp [bne])).trans ((goTne g).trans ((goTe rfl).trans rfl)))))
theorem lifted_law (os : Os) (started : os.Started) : ∀ {H : Type} (enc : TypeId × Value → H), ReturnsInHanded {} Try.checked os 3 .any (Rows.flowBlocksSpec.pre6 enc Try.prog Try.f3 [] false) (Rows.flowBlocksSpec.post enc Try.prog Try.f3 false true false false) := by
  intro H enc
  refine law_lifted (by kernel_rfl) (by kernel_rfl) started (by kernel_rfl) Try.func3 rfl ?_ rfl (by kernel_rfl) ?_
    (ChangeSpec.witness6 (enc := enc) (C := Try.checked) false ⟨#[], #[.slice none 0 0], []⟩ 8 (by kernel_rfl) (by kernel_rfl) (by kernel_rfl) (by kernel_rfl)) ?_
  · exact of_decide_eq_true (by kernel_rfl)
  · intro ds hds
    match ds, hds with
    | [d0], _ => rfl
  · intro W base args ds before hval htrod
    refine law_data (K := Kn) tok_bools Try.checked.mixed Try.func3 (by rfl) 30 4 (rc := []) (sh := [.one (.sl insT)]) (by kernel_rfl) ?_ W trivial base args ds before hval htrod
    rintro ⟨l, ⟨⟩⟩ hok
    exact ⟨LT_law, lok_law, (ev_law l).trans (true_law l hok)⟩
theorem over_law : Rows.flowBlocksRow.holds Try.pinned (OpenSpec.ofChange Rows.flowBlocksSpec) :=
  OpenClaim.holds_of_wide 3 Try.f3 rfl rfl rfl rfl rfl rfl rfl ⟨rfl, rfl, rfl, rfl, rfl⟩ rfl rfl rfl rfl rfl (by kernel_rfl) Try.func3 (by kernel_rfl)
    (of_decide_eq_true (by kernel_rfl)) (by unfold Func.isWrapper; first | (rw [if_pos (by decide +kernel)]; kernel_rfl) | (rw [if_neg (by decide +kernel)]; exact ⟨rfl, rfl⟩))
    (fun os started H enc _ => lifted_law os started enc)
theorem holds_law : Rows.FlowBlocksSaid := over_law
end Go.Proofs.Ytdbnbijillmlcaa.flb
