/-
  The contracts of the text parser, and of numbers' texts (written by our own gen_fap.py).
-/
import Derived.Test.YtfbldjaepenfpaaGreatDoorChecked
import Derived.Test.YtfbldjaepenfpaaGreatDoorFaS
import Derived.Test.YtfbldjaepenfpaaGreatDoorVyS
namespace Go.Proofs.YtfbldjaepenfpaaGreatDoor.Fp
open Go Go.Sy Go.Sz Go.Fa Go.Vy Go.Proofs.YtfbldjaepenfpaaGreatDoor
set_option linter.unusedVariables false
set_option linter.unusedSimpArgs false
set_option linter.constructorNameAsVariable false
set_option maxRecDepth 100000
noncomputable abbrev c_Plain : Code := Tryz.f73.body.getD .skip
def p_Plain : List Nat := [0, 1, 1]
def sh_Plain : Shape := ⟨[(0, .c (.w .u64)), (2, .c .s), (3, .c .s)], []⟩
@[reducible] def A_Plain : Type := (BitVec 64) × ByteArray × ByteArray
def e_Plain : A_Plain → sh_Plain.den := fun ⟨n, r, s⟩ => ((n, r, s, ()), ())
def v_Plain : sh_Plain.den → A_Plain := fun d => match d with
  | ((n, r, s, ()), ()) => (n, r, s)
def I_Plain : A_Plain → Prop := fun ⟨n, r, s⟩ => s.size ≤ 19 ∧ n.toNat < 10 ^ (20 - s.size)
noncomputable def G_Plain : A_Plain → Tree (Ex × St) := fun ⟨n, r, s⟩ => .ret (.ret, ⟨[(2, AV.c (.v (.string (B (dg n.toNat) ++ s))))], [], 0⟩)
noncomputable def orc_Plain : Orc := ⟨sh_Plain, [], [2], [], fun d => ckP (I_Plain (v_Plain d)) (G_Plain (v_Plain d))⟩
noncomputable def LT_Plain : LT := oneL p_Plain orc_Plain (noL)
noncomputable def T_Plain : (BitVec 64) × ByteArray × ByteArray → Tree (A_Plain ⊕ (Ex × St)) := fun ⟨n, r, s⟩ => 
Tree.ite (((strOf [(BitVec.setWidth (8 : Nat) (BitVec.ofInt (64 : Nat) (48 : Int) + n % BitVec.ofInt (64 : Nat) (10 : Int)), ())]).size + s.size).ble (9223372036854775807 : Nat)) (Tree.ite (n / BitVec.ofInt (64 : Nat) (10 : Int) == BitVec.ofInt (64 : Nat) (0 : Int)) (Tree.ret (Sum.inr (Ex.ret, { env := [((2 : Nat), AV.p (Part.one (Cell.v (Value.string (strOf [(BitVec.setWidth (8 : Nat) (BitVec.ofInt (64 : Nat) (48 : Int) + n % BitVec.ofInt (64 : Nat) (10 : Int)), ())] ++ s)))))], hp := [], nx := (0 : Nat) }))) (Tree.ret (Sum.inl (n / BitVec.ofInt (64 : Nat) (10 : Int), r, strOf [(BitVec.setWidth (8 : Nat) (BitVec.ofInt (64 : Nat) (48 : Int) + n % BitVec.ofInt (64 : Nat) (10 : Int)), ())] ++ s)))) Tree.fail
theorem turn_Plain : ∀ a : A_Plain, (turnT 0 orc_Plain (evalCode Tryz.prog (lk []) Tryz.f73.ntmps 0 20 LT_Plain (bodyAt c_Plain p_Plain) false (0 :: p_Plain)) (sh_Plain.enc (e_Plain a))).run = ((T_Plain a).bind fun s => .ret (turnV sh_Plain e_Plain s)).run := by
  rintro ⟨n, r, s⟩
  kernel_rfl
def μ_Plain : A_Plain → Nat := fun ⟨n, r, s⟩ => n.toNat
theorem step_Plain : ∀ a : A_Plain, I_Plain a → (∃ a', (T_Plain a).run = some (.inl a') ∧ I_Plain a' ∧ μ_Plain a' < μ_Plain a ∧ (G_Plain a').run = (G_Plain a).run) ∨ (∃ y, (T_Plain a).run = some (.inr y) ∧ (G_Plain a).run = some y ∧ ((∃ id, y.1 = .exit id) ∨ y.1 = .ret)) := by
  rintro ⟨n, r, s⟩ ⟨h1, h2⟩
  simp only [T_Plain]
  have d10 : (BitVec.ofInt 64 10).toNat = 10 := by rfl
  have hX : (BitVec.setWidth 8 (BitVec.ofInt 64 48 + n % BitVec.ofInt 64 10)).toNat = 48 + n.toNat % 10 := by
    rw [BitVec.toNat_setWidth, BitVec.toNat_add, BitVec.toNat_umod, d10, show (BitVec.ofInt 64 48).toNat = 48 by rfl]
    omega
  have hc : strOf [(BitVec.setWidth 8 (BitVec.ofInt 64 48 + n % BitVec.ofInt 64 10), ())] = B [ch (n.toNat % 10)] := by
    rw [strOf_one, ofBitVec_ch hX (Nat.mod_lt _ (by omega))]
  have hsz : (strOf [(BitVec.setWidth 8 (BitVec.ofInt 64 48 + n % BitVec.ofInt 64 10), ())]).size = 1 := by rw [hc, B_size]; rfl
  have hq : (n / BitVec.ofInt 64 10).toNat = n.toNat / 10 := by rw [BitVec.toNat_udiv, d10]
  rw [goT (Nat.ble_eq_true_of_le (by rw [hsz]; omega))]
  by_cases hz : n.toNat < 10
  · have e : (n / BitVec.ofInt 64 10 == BitVec.ofInt 64 0) = true := by
      rw [beq_iff_eq]
      apply BitVec.eq_of_toNat_eq
      rw [hq, show (BitVec.ofInt 64 0).toNat = 0 by rfl]; omega
    right
    rw [goT e]
    refine ⟨_, rfl, ?_, .inr rfl⟩
    simp only [G_Plain]
    rw [dg_last hz s hc]; rfl
  · have e : (n / BitVec.ofInt 64 10 == BitVec.ofInt 64 0) = false := by
      rw [beq_eq_false_iff_ne]
      intro he
      have := congrArg BitVec.toNat he
      rw [hq, show (BitVec.ofInt 64 0).toNat = 0 by rfl] at this
      omega
    left
    rw [goF e]
    have hs19 : s.size + 1 ≤ 19 := by
      rcases Nat.lt_or_ge s.size 19 with h | h
      · exact h
      · have : s.size = 19 := by omega
        rw [this] at h2
        omega
    have hs' : (strOf [(BitVec.setWidth 8 (BitVec.ofInt 64 48 + n % BitVec.ofInt 64 10), ())] ++ s).size = s.size + 1 := by rw [ByteArray.size_append, hsz]; omega
    refine ⟨_, rfl, ⟨by rw [hs']; exact hs19, ?_⟩, by simp only [μ_Plain]; rw [hq]; omega, ?_⟩
    · rw [hs', hq, Nat.div_lt_iff_lt_mul (by omega)]
      have : 10 ^ (20 - s.size) = 10 ^ (20 - (s.size + 1)) * 10 := by rw [← Nat.pow_succ]; congr 1; omega
      omega
    · simp only [G_Plain]
      rw [dg_step hz s hc, hq]
theorem lok_Plain : LOk Tryz.prog (lk []) Tryz.f73.ntmps 0 20 LT_Plain c_Plain := lok_view (noL_ok2 _ _ _ _ _ _ _) (by kernel_rfl) e_Plain (by rintro ⟨⟨n, r, s, ⟨⟩⟩, ⟨⟩⟩; exact ⟨(n, r, s), rfl⟩) T_Plain turn_Plain I_Plain G_Plain (by rintro ⟨n, r, s⟩; rfl) μ_Plain step_Plain
def ea_Plain : (BitVec 64) → denAs [.c (.w .u64)] := fun n => (n, ())
def eo_Plain : (BitVec 64) → denObs [] := fun n => ()
noncomputable def E_Plain : (BitVec 64) → Tree (AV × List Ob) := fun n => 
Tree.ite (decC ((0 : Nat) ≤ (19 : Nat) ∧ n.toNat < (100000000000000000000 : Nat))) (Tree.ret (AV.p (Part.one (Cell.v (Value.string (B (dg n.toNat) ++ { data := #[] })))), [])) Tree.fail
noncomputable def F_Plain : denAs [.c (.w .u64)] → denObs [] → Tree (AV × List Ob) := fun x y => match x, y with
  | (n, ()), () => .ret (AV.c (.v (.string (B (dg n.toNat)))), [])
theorem ev_Plain : ∀ a, (evalFnL Tryz.prog (lk []) 20 LT_Plain Tryz.f73 c_Plain [] (encAs [.c (.w .u64)] (ea_Plain a)) (encOs [] (eo_Plain a))).run = (E_Plain a).run := by
  rintro n
  kernel_rfl
theorem fe_Plain : ∀ a y, (F_Plain (ea_Plain a) (eo_Plain a)).run = some y → (E_Plain a).run = some y := by
  intro n y h
  rw [← h]
  dsimp only [E_Plain]
  have hn := n.isLt
  refine (ckP_true ⟨by show (0 : Nat) ≤ 19; omega, by show n.toNat < 10 ^ 20; omega⟩ _).trans ?_
  show some _ = some _
  rw [show ({ data := #[] } : ByteArray) = B [] from rfl, B_nil]
  rfl
theorem ok_Plain : SummOk Kn Tryz.prog 73 (sumT [.any] false [.c (.w .u64)] [] F_Plain) := sumT_view (lk_nil Kn Tryz.prog) Tryz.checked.mixed Tryz.func73 (by kernel_rfl) (by rfl) 20 [] ea_Plain eo_Plain
  (by rintro ⟨n, ⟨⟩⟩ ⟨⟩; exact ⟨n, rfl, rfl⟩) LT_Plain 0 (by rintro ⟨⟩; rfl) lok_Plain E_Plain ev_Plain fe_Plain
noncomputable def L_Plain : List (Nat × Summ) := (73, (sumT [.any] false [.c (.w .u64)] [] F_Plain)) :: []
theorem tok_Plain : TOk Kn Tryz.prog (lk L_Plain) := lk_cons ok_Plain (lk_nil Kn Tryz.prog)
def ea_Number : Int → denAs [.c (.i .i64)] := fun n => (n, ())
def eo_Number : Int → denObs [] := fun n => ()
noncomputable def E_Number : Int → Tree (AV × List Ob) := fun n => 
Tree.ite (decide (n < (0 : Int))) (Tree.ite (((1 : Nat) + (B (dg (-BitVec.ofInt (64 : Nat) n).toNat)).size).ble (9223372036854775807 : Nat)) (Tree.ret (AV.p (Part.one (Cell.v (Value.string ({ data := #[(45 : UInt8)] } ++ B (dg (-BitVec.ofInt (64 : Nat) n).toNat))))), [])) Tree.fail) (Tree.ret (AV.p (Part.one (Cell.v (Value.string (B (dg (BitVec.ofInt (64 : Nat) n).toNat))))), []))
noncomputable def F_Number : denAs [.c (.i .i64)] → denObs [] → Tree (AV × List Ob) := fun x y => match x, y with
  | (n, ()), () => ckP (-9223372036854775808 ≤ n ∧ n ≤ 9223372036854775807) (.ret (AV.c (.v (.string (B (nb n)))), []))
theorem ev_Number : ∀ a, (evalFnL Tryz.prog (lk L_Plain) 20 noL Tryz.f44 (Tryz.f44.body.getD .skip) [] (encAs [.c (.i .i64)] (ea_Number a)) (encOs [] (eo_Number a))).run = (E_Number a).run := by
  rintro n
  kernel_rfl
theorem fe_Number : ∀ a y, (F_Number (ea_Number a) (eo_Number a)).run = some y → (E_Number a).run = some y := by
  intro n y h
  obtain ⟨⟨h1, h2⟩, h⟩ := ckP_run h
  rw [← h]
  have h1 : (-9223372036854775808 : Int) ≤ n := h1
  have h2 : n ≤ (9223372036854775807 : Int) := h2
  dsimp only [E_Number]
  by_cases hn : n < 0
  · have e : (-BitVec.ofInt 64 n).toNat = (-n).toNat := by
      rw [← BitVec.ofInt_neg, BitVec.toNat_ofInt]; omega
    have hl : (dg (-n).toNat).length ≤ 20 := dg_len 19 _ (by omega)
    rw [goTd hn, e, goT (Nat.ble_eq_true_of_le (by rw [B_size]; omega))]
    show some _ = some _
    rw [show ({ data := #[45] } : ByteArray) = B [45] from rfl, B_append]
    unfold nb
    rw [if_pos hn]; rfl
  · have e : (BitVec.ofInt 64 n).toNat = n.toNat := by rw [BitVec.toNat_ofInt]; omega
    rw [goFd hn, e]
    unfold nb
    rw [if_neg hn]
theorem ok_Number : SummOk Kn Tryz.prog 44 (sumT [.any] false [.c (.i .i64)] [] F_Number) := sumT_view tok_Plain Tryz.checked.mixed Tryz.func44 (by kernel_rfl) (by rfl) 20 [] ea_Number eo_Number
  (by rintro ⟨n, ⟨⟩⟩ ⟨⟩; exact ⟨n, rfl, rfl⟩) noL 0 (by rintro ⟨⟩; rfl) (noL_ok _ _ _ _ _ _) E_Number ev_Number fe_Number
noncomputable def L_Number : List (Nat × Summ) := (44, (sumT [.any] false [.c (.i .i64)] [] F_Number)) :: L_Plain
theorem tok_Number : TOk Kn Tryz.prog (lk L_Number) := lk_cons ok_Number tok_Plain
def ea_n17 : Int → denAs [.c (.i .i64)] := fun n => (n, ())
def eo_n17 : Int → denObs [] := fun n => ()
noncomputable def E_n17 : Int → Tree (AV × List Ob) := fun n => 
Tree.ite (decC ((-9223372036854775808 : Int) ≤ n ∧ n ≤ (9223372036854775807 : Int))) (Tree.ret (AV.p (Part.one (Cell.v (Value.string (B (nb n))))), [])) Tree.fail
noncomputable def F_n17 : denAs [.c (.i .i64)] → denObs [] → Tree (AV × List Ob) := fun x y => match x, y with
  | (n, ()), () => ckP (-9223372036854775808 ≤ n ∧ n ≤ 9223372036854775807) (.ret (AV.c (.v (.string (B (nb n)))), []))
theorem ev_n17 : ∀ a, (evalFnL Tryz.prog (lk L_Number) 20 noL Tryz.f23 (Tryz.f23.body.getD .skip) [] (encAs [.c (.i .i64)] (ea_n17 a)) (encOs [] (eo_n17 a))).run = (E_n17 a).run := by
  rintro n
  kernel_rfl
theorem fe_n17 : ∀ a y, (F_n17 (ea_n17 a) (eo_n17 a)).run = some y → (E_n17 a).run = some y := by
  intro n y h
  exact h
theorem ok_n17 : SummOk Kn Tryz.prog 23 (sumT [.any] false [.c (.i .i64)] [] F_n17) := sumT_view tok_Number Tryz.checked.mixed Tryz.func23 (by kernel_rfl) (by rfl) 20 [] ea_n17 eo_n17
  (by rintro ⟨n, ⟨⟩⟩ ⟨⟩; exact ⟨n, rfl, rfl⟩) noL 0 (by rintro ⟨⟩; rfl) (noL_ok _ _ _ _ _ _) E_n17 ev_n17 fe_n17
noncomputable def L_n17 : List (Nat × Summ) := (23, (sumT [.any] false [.c (.i .i64)] [] F_n17)) :: L_Number
theorem tok_n17 : TOk Kn Tryz.prog (lk L_n17) := lk_cons ok_n17 tok_Number
noncomputable abbrev c_words : Code := Tryz.f196.body.getD .skip
def p_words : List Nat := [0, 1, 0, 1, 1, 1]
def sh_words : Shape := ⟨[(0, .c .s), (2, .c .nilS), (3, .c (.h 0)), (4, .c (.i .i64)), (5, .c (.i .i64))], [.row strT]⟩
@[reducible] def A_words : Type := ByteArray × (List (ByteArray × Unit)) × Int × Int
def e_words : A_words → sh_words.den := fun ⟨s, l, b, i⟩ => ((s, (), (), b, i, ()), (l, ()))
def v_words : sh_words.den → A_words := fun d => match d with
  | ((s, (), (), b, i, ()), (l, ())) => (s, l, b, i)
def I_words : A_words → Prop := fun ⟨s, l, b, i⟩ => 0 ≤ b ∧ b ≤ i ∧ i ≤ s.size + 1 ∧ s.size ≤ 65536 ∧ (l.length : Int) ≤ i
noncomputable def G_words : A_words → Tree (Ex × St) := fun ⟨s, l, b, i⟩ => .ret (.exit 0, ⟨[(2, AV.c (.v (.slice none 0 0))), (3, .p (.one (.h 0)))], [(0, .row strT (l ++ wv (s.size + 1 - i.toNat) s b.toNat i.toNat))], 1⟩)
noncomputable def orc_words : Orc := ⟨sh_words, [(3, strT)], [2, 3], [], fun d => ckP (I_words (v_words d)) (G_words (v_words d))⟩
noncomputable def LT_words : LT := oneL p_words orc_words (noL)
noncomputable def T_words : ByteArray × (List (ByteArray × Unit)) × Int × Int → Tree (A_words ⊕ (Ex × St)) := fun ⟨s, l, b, i⟩ => 
Tree.ite (decide (i ≤ (↑s.size : Int))) (Tree.ite (!i == (↑s.size : Int)) (Tree.ite (decide ((0 : Int) ≤ i) && decide (i < (↑s.size : Int))) (Tree.ite (byteAt s i.toNat == BitVec.ofInt (8 : Nat) (32 : Int)) (Tree.ite (decide ((0 : Int) ≤ i) && decide (i ≤ (↑s.size : Int))) (Tree.ite (decide ((0 : Int) ≤ b) && decide (b ≤ (↑i.toNat : Int))) (Tree.ite (bytesOk (l.length + (1 : Nat)) (16 : Nat) && (l.length + (1 : Nat)).ble (140737488355328 : Nat)) (Tree.ret (Sum.inl (s, l ++ [(s.extract b.toNat i.toNat, ())], IntKind.i64.wrap (i + (1 : Int)), IntKind.i64.wrap (i + (1 : Int))))) Tree.fail) Tree.fail) Tree.fail) (Tree.ret (Sum.inl (s, l, b, IntKind.i64.wrap (i + (1 : Int)))))) Tree.fail) (Tree.ite (decide ((0 : Int) ≤ i) && decide (i ≤ (↑s.size : Int))) (Tree.ite (decide ((0 : Int) ≤ b) && decide (b ≤ (↑i.toNat : Int))) (Tree.ite (bytesOk (l.length + (1 : Nat)) (16 : Nat) && (l.length + (1 : Nat)).ble (140737488355328 : Nat)) (Tree.ret (Sum.inl (s, l ++ [(s.extract b.toNat i.toNat, ())], IntKind.i64.wrap (i + (1 : Int)), IntKind.i64.wrap (i + (1 : Int))))) Tree.fail) Tree.fail) Tree.fail)) (Tree.ret (Sum.inr (Ex.exit (0 : Nat), { env := [((2 : Nat), AV.p (Part.one (Cell.v (Value.slice none (0 : Nat) (0 : Nat))))), ((3 : Nat), AV.p (Part.one (Cell.h (0 : Nat))))], hp := [((0 : Nat), Ob.row strT l)], nx := (1 : Nat) })))
theorem turn_words : ∀ a : A_words, (turnT 0 orc_words (evalCode Tryz.prog (lk L_n17) Tryz.f196.ntmps 0 20 LT_words (bodyAt c_words p_words) false (0 :: p_words)) (sh_words.enc (e_words a))).run = ((T_words a).bind fun s => .ret (turnV sh_words e_words s)).run := by
  rintro ⟨s, l, b, i⟩
  kernel_rfl
def μ_words : A_words → Nat := fun ⟨s, l, b, i⟩ => (s.size + 1 - i).toNat
theorem step_words : ∀ a : A_words, I_words a → (∃ a', (T_words a).run = some (.inl a') ∧ I_words a' ∧ μ_words a' < μ_words a ∧ (G_words a').run = (G_words a).run) ∨ (∃ y, (T_words a).run = some (.inr y) ∧ (G_words a).run = some y ∧ ((∃ id, y.1 = .exit id) ∨ y.1 = .ret)) := by
  rintro ⟨s, l, b, i⟩ ⟨h1, h2, h3, h4, h5⟩
  simp only [T_words]
  have w1 : IntKind.i64.wrap (i + 1) = i + 1 := wrap64 (n := i + 1) (by omega) (by omega)
  by_cases hi : i ≤ s.size
  · rw [goTd hi]
    left
    have hf : s.size + 1 - i.toNat = (s.size + 1 - (i + 1).toNat) + 1 := by omega
    have hs : (i + 1).toNat = i.toNat + 1 := by omega
    have cut : (decide (i.toNat = s.size) || (byteAt s i.toNat == BitVec.ofInt 8 32)) = true →
        I_words (s, l ++ [(s.extract b.toNat i.toNat, ())], i + 1, i + 1) ∧ μ_words (s, l ++ [(s.extract b.toNat i.toNat, ())], i + 1, i + 1) < μ_words (s, l, b, i) ∧ (G_words (s, l ++ [(s.extract b.toNat i.toNat, ())], i + 1, i + 1)).run = (G_words (s, l, b, i)).run := fun hb => by
      refine ⟨⟨by omega, by omega, by omega, h4, by rw [List.length_append]; simp only [List.length_cons, List.length_nil]; omega⟩, by simp only [μ_words]; omega, ?_⟩
      simp only [G_words]
      have hp : wv (s.size + 1 - i.toNat) s b.toNat i.toNat = (s.extract b.toNat i.toNat, ()) :: wv (s.size + 1 - (i + 1).toNat) s (i + 1).toNat (i + 1).toNat := by
        rw [hf]
        show (bif _ then _ else _) = _
        rw [hb, hs]; rfl
      rw [hp, List.append_assoc]; rfl
    by_cases he : i = s.size
    · rw [goF (by simp [he]), goTa ⟨by omega, hi⟩, goTa ⟨h1, by omega⟩, goTb ⟨by omega, by omega⟩, w1]
      exact ⟨_, rfl, cut (by rw [decide_eq_true (by omega)]; rfl)⟩
    · rw [goT (by simp [he]), goTa ⟨by omega, by omega⟩]
      cases hb : byteAt s i.toNat == BitVec.ofInt 8 32 with
      | true =>
        rw [goT rfl, goTa ⟨by omega, hi⟩, goTa ⟨h1, by omega⟩, goTb ⟨by omega, by omega⟩, w1]
        exact ⟨_, rfl, cut (by rw [hb]; simp)⟩
      | false =>
        rw [goF rfl, w1]
        refine ⟨_, rfl, ⟨h1, by omega, by omega, h4, by omega⟩, by simp only [μ_words]; omega, ?_⟩
        simp only [G_words]
        have hp : wv (s.size + 1 - i.toNat) s b.toNat i.toNat = wv (s.size + 1 - (i + 1).toNat) s b.toNat (i + 1).toNat := by
          rw [hf]
          show (bif _ then _ else _) = _
          rw [hb, decide_eq_false (by omega), hs]; rfl
        rw [hp]
  · right
    rw [goFd hi]
    refine ⟨_, rfl, ?_, .inl ⟨0, rfl⟩⟩
    simp only [G_words]
    rw [show s.size + 1 - i.toNat = 0 by omega]
    exact congrArg (fun z : List (ByteArray × Unit) => some (Ex.exit 0, (⟨[(2, AV.c (.v (.slice none 0 0))), (3, AV.p (.one (.h 0)))], [(0, Ob.row strT z)], 1⟩ : St))) (List.append_nil l)
theorem lok_words : LOk Tryz.prog (lk L_n17) Tryz.f196.ntmps 0 20 LT_words c_words := lok_view (noL_ok2 _ _ _ _ _ _ _) (by kernel_rfl) e_words (by rintro ⟨⟨s, ⟨⟩, ⟨⟩, b, i, ⟨⟩⟩, ⟨l, ⟨⟩⟩⟩; exact ⟨(s, l, b, i), rfl⟩) T_words turn_words I_words G_words (by rintro ⟨s, l, b, i⟩; rfl) μ_words step_words
def ea_words : ByteArray → denAs [.c .s] := fun s => (s, ())
def eo_words : ByteArray → denObs [] := fun s => ()
noncomputable def E_words : ByteArray → Tree (AV × List Ob) := fun s => 
Tree.ite (decC ((0 : Int) ≤ (0 : Int) ∧ (0 : Int) ≤ (0 : Int) ∧ (0 : Int) ≤ (↑s.size : Int) + (1 : Int) ∧ s.size ≤ (65536 : Nat) ∧ (0 : Int) ≤ (0 : Int))) (Tree.ret (AV.p (Part.one (Cell.h (0 : Nat))), [Ob.row strT ([] ++ wv (s.size + (1 : Nat) - (0 : Nat)) s (0 : Nat) (0 : Nat))])) Tree.fail
noncomputable def F_words : denAs [.c .s] → denObs [] → Tree (AV × List Ob) := fun x y => match x, y with
  | (s, ()), () => ckP (s.size ≤ 65536) (.ret (AV.c (.h 0), [.row strT (wv (s.size + 1) s 0 0)]))
theorem ev_words : ∀ a, (evalFnL Tryz.prog (lk L_n17) 20 LT_words Tryz.f196 c_words [(0, strT)] (encAs [.c .s] (ea_words a)) (encOs [] (eo_words a))).run = (E_words a).run := by
  rintro s
  kernel_rfl
theorem fe_words : ∀ a y, (F_words (ea_words a) (eo_words a)).run = some y → (E_words a).run = some y := by
  intro s y h
  obtain ⟨h1, h⟩ := ckP_run h
  rw [← h]
  dsimp only [E_words]
  exact ckP_true ⟨Int.le_refl 0, Int.le_refl 0, by omega, h1, Int.le_refl 0⟩ _
theorem ok_words : SummOk Kn Tryz.prog 196 (sumT [.any] false [.c .s] [] F_words) := sumT_view tok_n17 Tryz.checked.mixed Tryz.func196 (by kernel_rfl) (by rfl) 20 [(0, strT)] ea_words eo_words
  (by rintro ⟨s, ⟨⟩⟩ ⟨⟩; exact ⟨s, rfl, rfl⟩) LT_words 0 (by rintro ⟨⟩; rfl) lok_words E_words ev_words fe_words
noncomputable def L_words : List (Nat × Summ) := (196, (sumT [.any] false [.c .s] [] F_words)) :: L_n17
theorem tok_words : TOk Kn Tryz.prog (lk L_words) := lk_cons ok_words tok_n17
noncomputable abbrev c_trim : Code := Tryz.f118.body.getD .skip
def p_trim : List Nat := [0, 1, 0, 1]
def sh_trim : Shape := ⟨[(0, .c .s), (2, .c .s), (3, .c (.i .i64))], []⟩
@[reducible] def A_trim : Type := ByteArray × ByteArray × Int
def e_trim : A_trim → sh_trim.den := fun ⟨s, r, i⟩ => ((s, r, i, ()), ())
def v_trim : sh_trim.den → A_trim := fun d => match d with
  | ((s, r, i, ()), ()) => (s, r, i)
def I_trim : A_trim → Prop := fun ⟨s, r, i⟩ => 0 ≤ i ∧ i ≤ s.size ∧ s.size ≤ 65536 ∧ noSemi s i.toNat
noncomputable def G_trim : A_trim → Tree (Ex × St) := fun ⟨s, r, i⟩ => .ret (.exit 0, ⟨[(0, AV.c (.v (.string s))), (2, AV.c (.v (.string r)))], [], 0⟩)
noncomputable def orc_trim : Orc := ⟨sh_trim, [], [0, 2], [], fun d => ckP (I_trim (v_trim d)) (G_trim (v_trim d))⟩
def p_trim2 : List Nat := [0, 0, 1, 1]
def sh_trim2 : Shape := ⟨[(0, .c .s), (2, .c .s)], []⟩
@[reducible] def A_trim2 : Type := ByteArray × ByteArray
def e_trim2 : A_trim2 → sh_trim2.den := fun ⟨s, r⟩ => ((s, r, ()), ())
def v_trim2 : sh_trim2.den → A_trim2 := fun d => match d with
  | ((s, r, ()), ()) => (s, r)
def I_trim2 : A_trim2 → Prop := fun ⟨s, r⟩ => s.size ≤ 65536 ∧ tmF s
noncomputable def G_trim2 : A_trim2 → Tree (Ex × St) := fun ⟨s, r⟩ => .ret (.exit 2, ⟨[(0, AV.c (.v (.string (tmB s)))), (2, AV.c (.v (.string r)))], [], 0⟩)
noncomputable def orc_trim2 : Orc := ⟨sh_trim2, [], [0, 2], [], fun d => ckP (I_trim2 (v_trim2 d)) (G_trim2 (v_trim2 d))⟩
def p_trim3 : List Nat := [0, 0, 1, 1, 1]
def sh_trim3 : Shape := ⟨[(0, .c .s), (2, .c .s)], []⟩
@[reducible] def A_trim3 : Type := ByteArray × ByteArray
def e_trim3 : A_trim3 → sh_trim3.den := fun ⟨s, r⟩ => ((s, r, ()), ())
def v_trim3 : sh_trim3.den → A_trim3 := fun d => match d with
  | ((s, r, ()), ()) => (s, r)
def I_trim3 : A_trim3 → Prop := fun ⟨s, r⟩ => s.size ≤ 65536 ∧ (s.size = 0 ∨ blankB (byteAt s (s.size - 1)) = false)
noncomputable def G_trim3 : A_trim3 → Tree (Ex × St) := fun ⟨s, r⟩ => .ret (.exit 4, ⟨[(0, AV.c (.v (.string s))), (2, AV.c (.v (.string r)))], [], 0⟩)
noncomputable def orc_trim3 : Orc := ⟨sh_trim3, [], [0, 2], [], fun d => ckP (I_trim3 (v_trim3 d)) (G_trim3 (v_trim3 d))⟩
noncomputable def LT_trim : LT := oneL p_trim orc_trim (oneL p_trim2 orc_trim2 (oneL p_trim3 orc_trim3 (noL)))
noncomputable def T_trim3 : ByteArray × ByteArray → Tree (A_trim3 ⊕ (Ex × St)) := fun ⟨s, r⟩ => 
Tree.ite (decide ((0 : Int) < (↑s.size : Int))) (Tree.ite (decide ((0 : Int) ≤ IntKind.i64.wrap ((↑s.size : Int) - (1 : Int))) && decide (IntKind.i64.wrap ((↑s.size : Int) - (1 : Int)) < (↑s.size : Int))) (Tree.ite (!byteAt s (IntKind.i64.wrap ((↑s.size : Int) - (1 : Int))).toNat == BitVec.ofInt (8 : Nat) (32 : Int)) (Tree.ite (decide ((0 : Int) ≤ IntKind.i64.wrap ((↑s.size : Int) - (1 : Int))) && decide (IntKind.i64.wrap ((↑s.size : Int) - (1 : Int)) < (↑s.size : Int))) (Tree.ite (byteAt s (IntKind.i64.wrap ((↑s.size : Int) - (1 : Int))).toNat == BitVec.ofInt (8 : Nat) (9 : Int)) (Tree.ite (decide ((0 : Int) ≤ IntKind.i64.wrap ((↑s.size : Int) - (1 : Int))) && decide (IntKind.i64.wrap ((↑s.size : Int) - (1 : Int)) ≤ (↑s.size : Int))) (Tree.ret (Sum.inl (s.extract (0 : Nat) (IntKind.i64.wrap ((↑s.size : Int) - (1 : Int))).toNat, r))) Tree.fail) (Tree.ret (Sum.inr (Ex.exit (4 : Nat), { env := [((0 : Nat), AV.p (Part.one (Cell.v (Value.string s)))), ((2 : Nat), AV.p (Part.one (Cell.v (Value.string r))))], hp := [], nx := (0 : Nat) })))) Tree.fail) (Tree.ite (decide ((0 : Int) ≤ IntKind.i64.wrap ((↑s.size : Int) - (1 : Int))) && decide (IntKind.i64.wrap ((↑s.size : Int) - (1 : Int)) ≤ (↑s.size : Int))) (Tree.ret (Sum.inl (s.extract (0 : Nat) (IntKind.i64.wrap ((↑s.size : Int) - (1 : Int))).toNat, r))) Tree.fail)) Tree.fail) (Tree.ret (Sum.inr (Ex.exit (4 : Nat), { env := [((0 : Nat), AV.p (Part.one (Cell.v (Value.string s)))), ((2 : Nat), AV.p (Part.one (Cell.v (Value.string r))))], hp := [], nx := (0 : Nat) })))
theorem turn_trim3 : ∀ a : A_trim3, (turnT 0 orc_trim3 (evalCode Tryz.prog (lk L_words) Tryz.f118.ntmps 0 20 LT_trim (bodyAt c_trim p_trim3) false (0 :: p_trim3)) (sh_trim3.enc (e_trim3 a))).run = ((T_trim3 a).bind fun s => .ret (turnV sh_trim3 e_trim3 s)).run := by
  rintro ⟨s, r⟩
  kernel_rfl
def μ_trim3 : A_trim3 → Nat := fun ⟨s, r⟩ => s.size
theorem step_trim3 : ∀ a : A_trim3, I_trim3 a → (∃ a', (T_trim3 a).run = some (.inl a') ∧ I_trim3 a' ∧ μ_trim3 a' < μ_trim3 a ∧ (G_trim3 a').run = (G_trim3 a).run) ∨ (∃ y, (T_trim3 a).run = some (.inr y) ∧ (G_trim3 a).run = some y ∧ ((∃ id, y.1 = .exit id) ∨ y.1 = .ret)) := by
  rintro ⟨s, r⟩ ⟨h1, h2⟩
  simp only [T_trim3]
  right
  by_cases h0 : s.size = 0
  · rw [goFd (by omega)]
    exact ⟨_, rfl, rfl, .inl ⟨4, rfl⟩⟩
  have w1 : IntKind.i64.wrap ((s.size : Int) - 1) = (s.size : Int) - 1 := wrap64 (n := (s.size : Int) - 1) (by omega) (by omega)
  have hz : blankB (byteAt s (s.size - 1)) = false := h2.resolve_left h0
  unfold blankB at hz
  have hz := Bool.or_eq_false_iff.1 hz
  have ht : ((s.size : Int) - 1).toNat = s.size - 1 := by omega
  rw [goTd (by omega), w1, goTa ⟨by omega, by omega⟩, ht, goTN hz.1, goTa ⟨by omega, by omega⟩, goF hz.2]
  exact ⟨_, rfl, rfl, .inl ⟨4, rfl⟩⟩
noncomputable def T_trim2 : ByteArray × ByteArray → Tree (A_trim2 ⊕ (Ex × St)) := fun ⟨s, r⟩ => 
Tree.ite (decide ((0 : Int) < (↑s.size : Int))) (Tree.ite (true && decide ((0 : Int) < (↑s.size : Int))) (Tree.ite (!byteAt s (0 : Nat) == BitVec.ofInt (8 : Nat) (32 : Int)) (Tree.ite (true && decide ((0 : Int) < (↑s.size : Int))) (Tree.ite (byteAt s (0 : Nat) == BitVec.ofInt (8 : Nat) (9 : Int)) (Tree.ite (true && decide ((1 : Int) ≤ (↑s.size : Int))) (Tree.ret (Sum.inl (s.extract (1 : Nat) s.size, r))) Tree.fail) (Tree.ret (Sum.inr (Ex.exit (2 : Nat), { env := [((0 : Nat), AV.p (Part.one (Cell.v (Value.string s)))), ((2 : Nat), AV.p (Part.one (Cell.v (Value.string r))))], hp := [], nx := (0 : Nat) })))) Tree.fail) (Tree.ite (true && decide ((1 : Int) ≤ (↑s.size : Int))) (Tree.ret (Sum.inl (s.extract (1 : Nat) s.size, r))) Tree.fail)) Tree.fail) (Tree.ret (Sum.inr (Ex.exit (2 : Nat), { env := [((0 : Nat), AV.p (Part.one (Cell.v (Value.string s)))), ((2 : Nat), AV.p (Part.one (Cell.v (Value.string r))))], hp := [], nx := (0 : Nat) })))
theorem turn_trim2 : ∀ a : A_trim2, (turnT 0 orc_trim2 (evalCode Tryz.prog (lk L_words) Tryz.f118.ntmps 0 20 LT_trim (bodyAt c_trim p_trim2) false (0 :: p_trim2)) (sh_trim2.enc (e_trim2 a))).run = ((T_trim2 a).bind fun s => .ret (turnV sh_trim2 e_trim2 s)).run := by
  rintro ⟨s, r⟩
  kernel_rfl
def μ_trim2 : A_trim2 → Nat := fun ⟨s, r⟩ => s.size
theorem step_trim2 : ∀ a : A_trim2, I_trim2 a → (∃ a', (T_trim2 a).run = some (.inl a') ∧ I_trim2 a' ∧ μ_trim2 a' < μ_trim2 a ∧ (G_trim2 a').run = (G_trim2 a).run) ∨ (∃ y, (T_trim2 a).run = some (.inr y) ∧ (G_trim2 a).run = some y ∧ ((∃ id, y.1 = .exit id) ∨ y.1 = .ret)) := by
  rintro ⟨s, r⟩ ⟨h1, h2⟩
  simp only [T_trim2]
  by_cases h0 : s.size = 0
  · right
    rw [goFd (by omega)]
    refine ⟨_, rfl, ?_, .inl ⟨2, rfl⟩⟩
    simp only [G_trim2]
    have e : tmB s = s := by unfold tmB; rw [decide_eq_false (by omega)]; rfl
    rw [e]; rfl
  rw [goTd (by omega), goT (by rw [Bool.true_and]; exact decide_eq_true (by omega))]
  cases hb : byteAt s 0 == BitVec.ofInt 8 32 with
  | true =>
    left
    rw [goFN rfl, goT (by rw [Bool.true_and]; exact decide_eq_true (by omega))]
    have e : tmB s = s.extract 1 s.size := by unfold tmB; rw [decide_eq_true (by omega), hb]; rfl
    have hnb : (s.extract 1 s.size).size = 0 ∨ blankB (byteAt (s.extract 1 s.size) 0) = false := by
      rcases h2 with h2 | ⟨_, h2 | h2⟩ | h2
      · exact absurd h2 h0
      · left; rw [ext1_size]; omega
      · right; rw [ext1_at]; exact h2
      · unfold blankB at h2; rw [hb] at h2; cases h2
    have e2 : tmB (s.extract 1 s.size) = s.extract 1 s.size := by
      rcases hnb with hz | hz
      · unfold tmB; rw [decide_eq_false (by omega)]; rfl
      · have : (byteAt (s.extract 1 s.size) 0 == BitVec.ofInt 8 32) = false := by
          unfold blankB at hz
          exact (Bool.or_eq_false_iff.1 hz).1
        unfold tmB; rw [this, Bool.and_false]; rfl
    refine ⟨_, rfl, ⟨by rw [ext1_size]; omega, ?_⟩, by simp only [μ_trim2]; rw [ext1_size]; omega, ?_⟩
    · rcases hnb with hz | hz
      · exact .inl hz
      · exact .inr (.inr hz)
    · simp only [G_trim2]
      rw [e2, e]
  | false =>
    have e : tmB s = s := by unfold tmB; rw [hb, Bool.and_false]; rfl
    have h9 : (byteAt s 0 == BitVec.ofInt 8 9) = false := by
      rcases h2 with h2 | ⟨h2, _⟩ | h2
      · exact absurd h2 h0
      · rw [h2] at hb; cases hb
      · unfold blankB at h2
        exact (Bool.or_eq_false_iff.1 h2).2
    right
    rw [goTN rfl, goT (by rw [Bool.true_and]; exact decide_eq_true (by omega)), goF h9]
    refine ⟨_, rfl, ?_, .inl ⟨2, rfl⟩⟩
    simp only [G_trim2]
    rw [e]; rfl
noncomputable def T_trim : ByteArray × ByteArray × Int → Tree (A_trim ⊕ (Ex × St)) := fun ⟨s, r, i⟩ => 
Tree.ite (decide (i < (↑s.size : Int))) (Tree.ite (decide ((0 : Int) ≤ i) && decide (i < (↑s.size : Int))) (Tree.ite (byteAt s i.toNat == BitVec.ofInt (8 : Nat) (59 : Int)) (Tree.ite (decide ((0 : Int) ≤ i) && decide (i ≤ (↑s.size : Int))) (Tree.ret (Sum.inr (Ex.exit (0 : Nat), { env := [((0 : Nat), AV.p (Part.one (Cell.v (Value.string (s.extract (0 : Nat) i.toNat))))), ((2 : Nat), AV.p (Part.one (Cell.v (Value.string r))))], hp := [], nx := (0 : Nat) }))) Tree.fail) (Tree.ret (Sum.inl (s, r, IntKind.i64.wrap (i + (1 : Int)))))) Tree.fail) (Tree.ret (Sum.inr (Ex.exit (0 : Nat), { env := [((0 : Nat), AV.p (Part.one (Cell.v (Value.string s)))), ((2 : Nat), AV.p (Part.one (Cell.v (Value.string r))))], hp := [], nx := (0 : Nat) })))
theorem turn_trim : ∀ a : A_trim, (turnT 0 orc_trim (evalCode Tryz.prog (lk L_words) Tryz.f118.ntmps 0 20 LT_trim (bodyAt c_trim p_trim) false (0 :: p_trim)) (sh_trim.enc (e_trim a))).run = ((T_trim a).bind fun s => .ret (turnV sh_trim e_trim s)).run := by
  rintro ⟨s, r, i⟩
  kernel_rfl
def μ_trim : A_trim → Nat := fun ⟨s, r, i⟩ => (s.size - i).toNat
theorem step_trim : ∀ a : A_trim, I_trim a → (∃ a', (T_trim a).run = some (.inl a') ∧ I_trim a' ∧ μ_trim a' < μ_trim a ∧ (G_trim a').run = (G_trim a).run) ∨ (∃ y, (T_trim a).run = some (.inr y) ∧ (G_trim a).run = some y ∧ ((∃ id, y.1 = .exit id) ∨ y.1 = .ret)) := by
  rintro ⟨s, r, i⟩ ⟨h1, h2, h3, h4⟩
  simp only [T_trim]
  have w1 : IntKind.i64.wrap (i + 1) = i + 1 := wrap64 (n := i + 1) (by omega) (by omega)
  by_cases hi : i < s.size
  · left
    rw [goTd hi, goTa ⟨h1, hi⟩, goF (h4 i.toNat (Nat.le_refl _) (by omega)), w1]
    exact ⟨_, rfl, ⟨by omega, by omega, h3, fun j hj hj2 => h4 j (by omega) hj2⟩, by simp only [μ_trim]; omega, rfl⟩
  · right
    rw [goFd hi]
    exact ⟨_, rfl, rfl, .inl ⟨0, rfl⟩⟩
theorem lok_trim : LOk Tryz.prog (lk L_words) Tryz.f118.ntmps 0 20 LT_trim c_trim := lok_view (lok_view (lok_view (noL_ok2 _ _ _ _ _ _ _) (by kernel_rfl) e_trim3 (by rintro ⟨⟨s, r, ⟨⟩⟩, ⟨⟩⟩; exact ⟨(s, r), rfl⟩) T_trim3 turn_trim3 I_trim3 G_trim3 (by rintro ⟨s, r⟩; rfl) μ_trim3 step_trim3) (by kernel_rfl) e_trim2 (by rintro ⟨⟨s, r, ⟨⟩⟩, ⟨⟩⟩; exact ⟨(s, r), rfl⟩) T_trim2 turn_trim2 I_trim2 G_trim2 (by rintro ⟨s, r⟩; rfl) μ_trim2 step_trim2) (by kernel_rfl) e_trim (by rintro ⟨⟨s, r, i, ⟨⟩⟩, ⟨⟩⟩; exact ⟨(s, r, i), rfl⟩) T_trim turn_trim I_trim G_trim (by rintro ⟨s, r, i⟩; rfl) μ_trim step_trim
def ea_trim : ByteArray → denAs [.c .s] := fun s => (s, ())
def eo_trim : ByteArray → denObs [] := fun s => ()
noncomputable def E_trim : ByteArray → Tree (AV × List Ob) := fun s => 
Tree.ite (decC ((0 : Int) ≤ (0 : Int) ∧ (0 : Int) ≤ (↑s.size : Int) ∧ s.size ≤ (65536 : Nat) ∧ noSemi s (0 : Nat))) (Tree.ite (decC (s.size ≤ (65536 : Nat) ∧ tmF s)) (Tree.ite (decC ((tmB s).size ≤ (65536 : Nat) ∧ ((tmB s).size = (0 : Nat) ∨ blankB (byteAt (tmB s) ((tmB s).size - (1 : Nat))) = false))) (Tree.ret (AV.p (Part.one (Cell.v (Value.string (tmB s)))), [])) Tree.fail) Tree.fail) Tree.fail
noncomputable def F_trim : denAs [.c .s] → denObs [] → Tree (AV × List Ob) := fun x y => match x, y with
  | (s, ()), () => ckP (s.size ≤ 65536 ∧ noSemi s 0 ∧ tmF s ∧ ((tmB s).size = 0 ∨ blankB (byteAt (tmB s) ((tmB s).size - 1)) = false)) (.ret (AV.c (.v (.string (tmB s))), []))
theorem ev_trim : ∀ a, (evalFnL Tryz.prog (lk L_words) 20 LT_trim Tryz.f118 c_trim [] (encAs [.c .s] (ea_trim a)) (encOs [] (eo_trim a))).run = (E_trim a).run := by
  rintro s
  kernel_rfl
theorem fe_trim : ∀ a y, (F_trim (ea_trim a) (eo_trim a)).run = some y → (E_trim a).run = some y := by
  intro s y h
  obtain ⟨⟨h1, h2, h3, h4⟩, h⟩ := ckP_run h
  rw [← h]
  dsimp only [E_trim]
  refine (ckP_true ⟨Int.le_refl 0, by omega, h1, h2⟩ _).trans ?_
  refine (ckP_true ⟨h1, h3⟩ _).trans ?_
  refine (ckP_true ⟨?_, h4⟩ _).trans rfl
  unfold tmB
  cases (decide (0 < s.size) && (byteAt s 0 == BitVec.ofInt 8 32)) with
  | true => rw [cond_true, ext1_size]; omega
  | false => exact h1
theorem ok_trim : SummOk Kn Tryz.prog 118 (sumT [.any] false [.c .s] [] F_trim) := sumT_view tok_words Tryz.checked.mixed Tryz.func118 (by kernel_rfl) (by rfl) 20 [] ea_trim eo_trim
  (by rintro ⟨s, ⟨⟩⟩ ⟨⟩; exact ⟨s, rfl, rfl⟩) LT_trim 0 (by rintro ⟨⟩; rfl) lok_trim E_trim ev_trim fe_trim
noncomputable def L_trim : List (Nat × Summ) := (118, (sumT [.any] false [.c .s] [] F_trim)) :: L_words
theorem tok_trim : TOk Kn Tryz.prog (lk L_trim) := lk_cons ok_trim tok_words
noncomputable abbrev c_plain : Code := Tryz.f281.body.getD .skip
def p_plain : List Nat := [0, 1, 0, 1, 1, 1]
def sh_plain : Shape := ⟨[(0, .c .s), (2, .c (.w .u64)), (3, .c .b), (4, .c (.w .u64)), (5, .c (.i .i64))], []⟩
@[reducible] def A_plain : Type := ByteArray × (BitVec 64) × Bool × (BitVec 64) × Int
def e_plain : A_plain → sh_plain.den := fun ⟨s, r, q, n, i⟩ => ((s, r, q, n, i, ()), ())
def v_plain : sh_plain.den → A_plain := fun d => match d with
  | ((s, r, q, n, i, ()), ()) => (s, r, q, n, i)
def I_plain : A_plain → Prop := fun ⟨s, r, q, n, i⟩ => 0 ≤ i ∧ i ≤ s.size ∧ s.size ≤ 65536
noncomputable def G_plain : A_plain → Tree (Ex × St) := fun ⟨s, r, q, n, i⟩ => .ite (plGo (s.size - i.toNat) s i.toNat n).2 (.ret (.exit 0, ⟨[(2, AV.c (.w .u64 r)), (3, AV.c (.v (.bool q))), (4, AV.c (.w .u64 (plGo (s.size - i.toNat) s i.toNat n).1))], [], 0⟩)) (.ret (.ret, ⟨[(2, AV.c (.w .u64 (BitVec.ofInt 64 0))), (3, AV.c (.v (.bool false))), (4, AV.c (.w .u64 (plGo (s.size - i.toNat) s i.toNat n).1))], [], 0⟩))
noncomputable def orc_plain : Orc := ⟨sh_plain, [], [2, 3, 4], [], fun d => ckP (I_plain (v_plain d)) (G_plain (v_plain d))⟩
noncomputable def LT_plain : LT := oneL p_plain orc_plain (noL)
noncomputable def T_plain : ByteArray × (BitVec 64) × Bool × (BitVec 64) × Int → Tree (A_plain ⊕ (Ex × St)) := fun ⟨s, r, q, n, i⟩ => 
Tree.ite (decide (i < (↑s.size : Int))) (Tree.ite (decide ((0 : Int) ≤ i) && decide (i < (↑s.size : Int))) (Tree.ite (decide ((0 : Int) ≤ i) && decide (i < (↑s.size : Int))) (Tree.ite (!(byteAt s i.toNat).ult (BitVec.ofInt (8 : Nat) (48 : Int))) (Tree.ite true (Tree.ite true (Tree.ite (decide ((0 : Int) ≤ i) && decide (i < (↑s.size : Int))) (Tree.ite true (Tree.ite (!(BitVec.ofInt (8 : Nat) (57 : Int)).ult (byteAt s i.toNat)) (Tree.ite true (Tree.ite true (Tree.ite true (Tree.ite false Tree.fail (Tree.ite true (Tree.ite (bif false then true else (((BitVec.ofInt (64 : Nat) (18446744073709551615 : Int) - (BitVec.setWidth (64 : Nat) (byteAt s i.toNat) - BitVec.ofInt (64 : Nat) (48 : Int))) / BitVec.ofInt (64 : Nat) (10 : Int)).ult n)) (Tree.ret (Sum.inr (Ex.ret, { env := [((2 : Nat), AV.p (Part.one (Cell.w IntKind.u64 (BitVec.ofInt (64 : Nat) (0 : Int))))), ((3 : Nat), AV.p (Part.one (Cell.v (Value.bool false)))), ((4 : Nat), AV.p (Part.one (Cell.w IntKind.u64 n)))], hp := [], nx := (0 : Nat) }))) (Tree.ret (Sum.inl (s, r, q, BitVec.ofInt (64 : Nat) (10 : Int) * n + (BitVec.setWidth (64 : Nat) (byteAt s i.toNat) - BitVec.ofInt (64 : Nat) (48 : Int)), IntKind.i64.wrap (i + (1 : Int)))))) (Tree.ite true (Tree.ite true (Tree.ret (Sum.inr (Ex.ret, { env := [((2 : Nat), AV.p (Part.one (Cell.w IntKind.u64 (BitVec.ofInt (64 : Nat) (0 : Int))))), ((3 : Nat), AV.p (Part.one (Cell.v (Value.bool false)))), ((4 : Nat), AV.p (Part.one (Cell.w IntKind.u64 n)))], hp := [], nx := (0 : Nat) }))) (Tree.ret (Sum.inl (s, r, q, BitVec.ofInt (64 : Nat) (10 : Int) * n + (BitVec.setWidth (64 : Nat) (byteAt s i.toNat) - BitVec.ofInt (64 : Nat) (48 : Int)), IntKind.i64.wrap (i + (1 : Int)))))) Tree.fail))) (Tree.ite false Tree.fail (Tree.ite true (Tree.ite true (Tree.ret (Sum.inr (Ex.ret, { env := [((2 : Nat), AV.p (Part.one (Cell.w IntKind.u64 (BitVec.ofInt (64 : Nat) (0 : Int))))), ((3 : Nat), AV.p (Part.one (Cell.v (Value.bool false)))), ((4 : Nat), AV.p (Part.one (Cell.w IntKind.u64 n)))], hp := [], nx := (0 : Nat) }))) (Tree.ret (Sum.inl (s, r, q, BitVec.ofInt (64 : Nat) (10 : Int) * n + (BitVec.setWidth (64 : Nat) (byteAt s i.toNat) - BitVec.ofInt (64 : Nat) (48 : Int)), IntKind.i64.wrap (i + (1 : Int)))))) Tree.fail))) (Tree.ite false Tree.fail (Tree.ite false Tree.fail (Tree.ite true (Tree.ite true (Tree.ret (Sum.inr (Ex.ret, { env := [((2 : Nat), AV.p (Part.one (Cell.w IntKind.u64 (BitVec.ofInt (64 : Nat) (0 : Int))))), ((3 : Nat), AV.p (Part.one (Cell.v (Value.bool false)))), ((4 : Nat), AV.p (Part.one (Cell.w IntKind.u64 n)))], hp := [], nx := (0 : Nat) }))) (Tree.ret (Sum.inl (s, r, q, BitVec.ofInt (64 : Nat) (10 : Int) * n + (BitVec.setWidth (64 : Nat) (byteAt s i.toNat) - BitVec.ofInt (64 : Nat) (48 : Int)), IntKind.i64.wrap (i + (1 : Int)))))) Tree.fail)))) (Tree.ite false Tree.fail (Tree.ite false Tree.fail (Tree.ite false Tree.fail (Tree.ite true (Tree.ite true (Tree.ret (Sum.inr (Ex.ret, { env := [((2 : Nat), AV.p (Part.one (Cell.w IntKind.u64 (BitVec.ofInt (64 : Nat) (0 : Int))))), ((3 : Nat), AV.p (Part.one (Cell.v (Value.bool false)))), ((4 : Nat), AV.p (Part.one (Cell.w IntKind.u64 n)))], hp := [], nx := (0 : Nat) }))) (Tree.ret (Sum.inl (s, r, q, BitVec.ofInt (64 : Nat) (10 : Int) * n + (BitVec.setWidth (64 : Nat) (byteAt s i.toNat) - BitVec.ofInt (64 : Nat) (48 : Int)), IntKind.i64.wrap (i + (1 : Int)))))) Tree.fail))))) (Tree.ite false (Tree.ite true (Tree.ite true (Tree.ite false Tree.fail (Tree.ite true Tree.fail (Tree.ite true (Tree.ite true (Tree.ret (Sum.inr (Ex.ret, { env := [((2 : Nat), AV.p (Part.one (Cell.w IntKind.u64 (BitVec.ofInt (64 : Nat) (0 : Int))))), ((3 : Nat), AV.p (Part.one (Cell.v (Value.bool false)))), ((4 : Nat), AV.p (Part.one (Cell.w IntKind.u64 n)))], hp := [], nx := (0 : Nat) }))) (Tree.ret (Sum.inl (s, r, q, BitVec.ofInt (64 : Nat) (10 : Int) * n + (BitVec.setWidth (64 : Nat) (byteAt s i.toNat) - BitVec.ofInt (64 : Nat) (48 : Int)), IntKind.i64.wrap (i + (1 : Int)))))) Tree.fail))) (Tree.ite false Tree.fail (Tree.ite true (Tree.ite true (Tree.ret (Sum.inr (Ex.ret, { env := [((2 : Nat), AV.p (Part.one (Cell.w IntKind.u64 (BitVec.ofInt (64 : Nat) (0 : Int))))), ((3 : Nat), AV.p (Part.one (Cell.v (Value.bool false)))), ((4 : Nat), AV.p (Part.one (Cell.w IntKind.u64 n)))], hp := [], nx := (0 : Nat) }))) (Tree.ret (Sum.inl (s, r, q, BitVec.ofInt (64 : Nat) (10 : Int) * n + (BitVec.setWidth (64 : Nat) (byteAt s i.toNat) - BitVec.ofInt (64 : Nat) (48 : Int)), IntKind.i64.wrap (i + (1 : Int)))))) Tree.fail))) (Tree.ite false Tree.fail (Tree.ite false Tree.fail (Tree.ite true (Tree.ite true (Tree.ret (Sum.inr (Ex.ret, { env := [((2 : Nat), AV.p (Part.one (Cell.w IntKind.u64 (BitVec.ofInt (64 : Nat) (0 : Int))))), ((3 : Nat), AV.p (Part.one (Cell.v (Value.bool false)))), ((4 : Nat), AV.p (Part.one (Cell.w IntKind.u64 n)))], hp := [], nx := (0 : Nat) }))) (Tree.ret (Sum.inl (s, r, q, BitVec.ofInt (64 : Nat) (10 : Int) * n + (BitVec.setWidth (64 : Nat) (byteAt s i.toNat) - BitVec.ofInt (64 : Nat) (48 : Int)), IntKind.i64.wrap (i + (1 : Int)))))) Tree.fail)))) (Tree.ite false Tree.fail (Tree.ite false Tree.fail (Tree.ite false Tree.fail (Tree.ite true (Tree.ite true (Tree.ret (Sum.inr (Ex.ret, { env := [((2 : Nat), AV.p (Part.one (Cell.w IntKind.u64 (BitVec.ofInt (64 : Nat) (0 : Int))))), ((3 : Nat), AV.p (Part.one (Cell.v (Value.bool false)))), ((4 : Nat), AV.p (Part.one (Cell.w IntKind.u64 n)))], hp := [], nx := (0 : Nat) }))) (Tree.ret (Sum.inl (s, r, q, BitVec.ofInt (64 : Nat) (10 : Int) * n + (BitVec.setWidth (64 : Nat) (byteAt s i.toNat) - BitVec.ofInt (64 : Nat) (48 : Int)), IntKind.i64.wrap (i + (1 : Int)))))) Tree.fail)))))) (Tree.ite true (Tree.ite false (Tree.ite true (Tree.ite true (Tree.ite true (Tree.ite false Tree.fail (Tree.ite true (Tree.ite (bif false then true else (((BitVec.ofInt (64 : Nat) (18446744073709551615 : Int) - (BitVec.setWidth (64 : Nat) (byteAt s i.toNat) - BitVec.ofInt (64 : Nat) (48 : Int))) / BitVec.ofInt (64 : Nat) (10 : Int)).ult n)) (Tree.ret (Sum.inr (Ex.ret, { env := [((2 : Nat), AV.p (Part.one (Cell.w IntKind.u64 (BitVec.ofInt (64 : Nat) (0 : Int))))), ((3 : Nat), AV.p (Part.one (Cell.v (Value.bool false)))), ((4 : Nat), AV.p (Part.one (Cell.w IntKind.u64 n)))], hp := [], nx := (0 : Nat) }))) (Tree.ret (Sum.inl (s, r, q, BitVec.ofInt (64 : Nat) (10 : Int) * n + (BitVec.setWidth (64 : Nat) (byteAt s i.toNat) - BitVec.ofInt (64 : Nat) (48 : Int)), IntKind.i64.wrap (i + (1 : Int)))))) (Tree.ite true (Tree.ite true (Tree.ret (Sum.inr (Ex.ret, { env := [((2 : Nat), AV.p (Part.one (Cell.w IntKind.u64 (BitVec.ofInt (64 : Nat) (0 : Int))))), ((3 : Nat), AV.p (Part.one (Cell.v (Value.bool false)))), ((4 : Nat), AV.p (Part.one (Cell.w IntKind.u64 n)))], hp := [], nx := (0 : Nat) }))) (Tree.ret (Sum.inl (s, r, q, BitVec.ofInt (64 : Nat) (10 : Int) * n + (BitVec.setWidth (64 : Nat) (byteAt s i.toNat) - BitVec.ofInt (64 : Nat) (48 : Int)), IntKind.i64.wrap (i + (1 : Int)))))) Tree.fail))) (Tree.ite false Tree.fail (Tree.ite true (Tree.ite true (Tree.ret (Sum.inr (Ex.ret, { env := [((2 : Nat), AV.p (Part.one (Cell.w IntKind.u64 (BitVec.ofInt (64 : Nat) (0 : Int))))), ((3 : Nat), AV.p (Part.one (Cell.v (Value.bool false)))), ((4 : Nat), AV.p (Part.one (Cell.w IntKind.u64 n)))], hp := [], nx := (0 : Nat) }))) (Tree.ret (Sum.inl (s, r, q, BitVec.ofInt (64 : Nat) (10 : Int) * n + (BitVec.setWidth (64 : Nat) (byteAt s i.toNat) - BitVec.ofInt (64 : Nat) (48 : Int)), IntKind.i64.wrap (i + (1 : Int)))))) Tree.fail))) (Tree.ite false Tree.fail (Tree.ite false Tree.fail (Tree.ite true (Tree.ite true (Tree.ret (Sum.inr (Ex.ret, { env := [((2 : Nat), AV.p (Part.one (Cell.w IntKind.u64 (BitVec.ofInt (64 : Nat) (0 : Int))))), ((3 : Nat), AV.p (Part.one (Cell.v (Value.bool false)))), ((4 : Nat), AV.p (Part.one (Cell.w IntKind.u64 n)))], hp := [], nx := (0 : Nat) }))) (Tree.ret (Sum.inl (s, r, q, BitVec.ofInt (64 : Nat) (10 : Int) * n + (BitVec.setWidth (64 : Nat) (byteAt s i.toNat) - BitVec.ofInt (64 : Nat) (48 : Int)), IntKind.i64.wrap (i + (1 : Int)))))) Tree.fail)))) (Tree.ite false Tree.fail (Tree.ite false Tree.fail (Tree.ite false Tree.fail (Tree.ite true (Tree.ite true (Tree.ret (Sum.inr (Ex.ret, { env := [((2 : Nat), AV.p (Part.one (Cell.w IntKind.u64 (BitVec.ofInt (64 : Nat) (0 : Int))))), ((3 : Nat), AV.p (Part.one (Cell.v (Value.bool false)))), ((4 : Nat), AV.p (Part.one (Cell.w IntKind.u64 n)))], hp := [], nx := (0 : Nat) }))) (Tree.ret (Sum.inl (s, r, q, BitVec.ofInt (64 : Nat) (10 : Int) * n + (BitVec.setWidth (64 : Nat) (byteAt s i.toNat) - BitVec.ofInt (64 : Nat) (48 : Int)), IntKind.i64.wrap (i + (1 : Int)))))) Tree.fail))))) (Tree.ite false (Tree.ite true (Tree.ite true (Tree.ite false Tree.fail (Tree.ite true Tree.fail (Tree.ite true (Tree.ite true (Tree.ret (Sum.inr (Ex.ret, { env := [((2 : Nat), AV.p (Part.one (Cell.w IntKind.u64 (BitVec.ofInt (64 : Nat) (0 : Int))))), ((3 : Nat), AV.p (Part.one (Cell.v (Value.bool false)))), ((4 : Nat), AV.p (Part.one (Cell.w IntKind.u64 n)))], hp := [], nx := (0 : Nat) }))) (Tree.ret (Sum.inl (s, r, q, BitVec.ofInt (64 : Nat) (10 : Int) * n + (BitVec.setWidth (64 : Nat) (byteAt s i.toNat) - BitVec.ofInt (64 : Nat) (48 : Int)), IntKind.i64.wrap (i + (1 : Int)))))) Tree.fail))) (Tree.ite false Tree.fail (Tree.ite true (Tree.ite true (Tree.ret (Sum.inr (Ex.ret, { env := [((2 : Nat), AV.p (Part.one (Cell.w IntKind.u64 (BitVec.ofInt (64 : Nat) (0 : Int))))), ((3 : Nat), AV.p (Part.one (Cell.v (Value.bool false)))), ((4 : Nat), AV.p (Part.one (Cell.w IntKind.u64 n)))], hp := [], nx := (0 : Nat) }))) (Tree.ret (Sum.inl (s, r, q, BitVec.ofInt (64 : Nat) (10 : Int) * n + (BitVec.setWidth (64 : Nat) (byteAt s i.toNat) - BitVec.ofInt (64 : Nat) (48 : Int)), IntKind.i64.wrap (i + (1 : Int)))))) Tree.fail))) (Tree.ite false Tree.fail (Tree.ite false Tree.fail (Tree.ite true (Tree.ite true (Tree.ret (Sum.inr (Ex.ret, { env := [((2 : Nat), AV.p (Part.one (Cell.w IntKind.u64 (BitVec.ofInt (64 : Nat) (0 : Int))))), ((3 : Nat), AV.p (Part.one (Cell.v (Value.bool false)))), ((4 : Nat), AV.p (Part.one (Cell.w IntKind.u64 n)))], hp := [], nx := (0 : Nat) }))) (Tree.ret (Sum.inl (s, r, q, BitVec.ofInt (64 : Nat) (10 : Int) * n + (BitVec.setWidth (64 : Nat) (byteAt s i.toNat) - BitVec.ofInt (64 : Nat) (48 : Int)), IntKind.i64.wrap (i + (1 : Int)))))) Tree.fail)))) (Tree.ite false Tree.fail (Tree.ite false Tree.fail (Tree.ite false Tree.fail (Tree.ite true (Tree.ite true (Tree.ret (Sum.inr (Ex.ret, { env := [((2 : Nat), AV.p (Part.one (Cell.w IntKind.u64 (BitVec.ofInt (64 : Nat) (0 : Int))))), ((3 : Nat), AV.p (Part.one (Cell.v (Value.bool false)))), ((4 : Nat), AV.p (Part.one (Cell.w IntKind.u64 n)))], hp := [], nx := (0 : Nat) }))) (Tree.ret (Sum.inl (s, r, q, BitVec.ofInt (64 : Nat) (10 : Int) * n + (BitVec.setWidth (64 : Nat) (byteAt s i.toNat) - BitVec.ofInt (64 : Nat) (48 : Int)), IntKind.i64.wrap (i + (1 : Int)))))) Tree.fail)))))) Tree.fail)) Tree.fail) (Tree.ite false Tree.fail (Tree.ite true (Tree.ite false (Tree.ite true (Tree.ite true (Tree.ite true (Tree.ite false Tree.fail (Tree.ite true (Tree.ite (bif false then true else (((BitVec.ofInt (64 : Nat) (18446744073709551615 : Int) - (BitVec.setWidth (64 : Nat) (byteAt s i.toNat) - BitVec.ofInt (64 : Nat) (48 : Int))) / BitVec.ofInt (64 : Nat) (10 : Int)).ult n)) (Tree.ret (Sum.inr (Ex.ret, { env := [((2 : Nat), AV.p (Part.one (Cell.w IntKind.u64 (BitVec.ofInt (64 : Nat) (0 : Int))))), ((3 : Nat), AV.p (Part.one (Cell.v (Value.bool false)))), ((4 : Nat), AV.p (Part.one (Cell.w IntKind.u64 n)))], hp := [], nx := (0 : Nat) }))) (Tree.ret (Sum.inl (s, r, q, BitVec.ofInt (64 : Nat) (10 : Int) * n + (BitVec.setWidth (64 : Nat) (byteAt s i.toNat) - BitVec.ofInt (64 : Nat) (48 : Int)), IntKind.i64.wrap (i + (1 : Int)))))) (Tree.ite true (Tree.ite true (Tree.ret (Sum.inr (Ex.ret, { env := [((2 : Nat), AV.p (Part.one (Cell.w IntKind.u64 (BitVec.ofInt (64 : Nat) (0 : Int))))), ((3 : Nat), AV.p (Part.one (Cell.v (Value.bool false)))), ((4 : Nat), AV.p (Part.one (Cell.w IntKind.u64 n)))], hp := [], nx := (0 : Nat) }))) (Tree.ret (Sum.inl (s, r, q, BitVec.ofInt (64 : Nat) (10 : Int) * n + (BitVec.setWidth (64 : Nat) (byteAt s i.toNat) - BitVec.ofInt (64 : Nat) (48 : Int)), IntKind.i64.wrap (i + (1 : Int)))))) Tree.fail))) (Tree.ite false Tree.fail (Tree.ite true (Tree.ite true (Tree.ret (Sum.inr (Ex.ret, { env := [((2 : Nat), AV.p (Part.one (Cell.w IntKind.u64 (BitVec.ofInt (64 : Nat) (0 : Int))))), ((3 : Nat), AV.p (Part.one (Cell.v (Value.bool false)))), ((4 : Nat), AV.p (Part.one (Cell.w IntKind.u64 n)))], hp := [], nx := (0 : Nat) }))) (Tree.ret (Sum.inl (s, r, q, BitVec.ofInt (64 : Nat) (10 : Int) * n + (BitVec.setWidth (64 : Nat) (byteAt s i.toNat) - BitVec.ofInt (64 : Nat) (48 : Int)), IntKind.i64.wrap (i + (1 : Int)))))) Tree.fail))) (Tree.ite false Tree.fail (Tree.ite false Tree.fail (Tree.ite true (Tree.ite true (Tree.ret (Sum.inr (Ex.ret, { env := [((2 : Nat), AV.p (Part.one (Cell.w IntKind.u64 (BitVec.ofInt (64 : Nat) (0 : Int))))), ((3 : Nat), AV.p (Part.one (Cell.v (Value.bool false)))), ((4 : Nat), AV.p (Part.one (Cell.w IntKind.u64 n)))], hp := [], nx := (0 : Nat) }))) (Tree.ret (Sum.inl (s, r, q, BitVec.ofInt (64 : Nat) (10 : Int) * n + (BitVec.setWidth (64 : Nat) (byteAt s i.toNat) - BitVec.ofInt (64 : Nat) (48 : Int)), IntKind.i64.wrap (i + (1 : Int)))))) Tree.fail)))) (Tree.ite false Tree.fail (Tree.ite false Tree.fail (Tree.ite false Tree.fail (Tree.ite true (Tree.ite true (Tree.ret (Sum.inr (Ex.ret, { env := [((2 : Nat), AV.p (Part.one (Cell.w IntKind.u64 (BitVec.ofInt (64 : Nat) (0 : Int))))), ((3 : Nat), AV.p (Part.one (Cell.v (Value.bool false)))), ((4 : Nat), AV.p (Part.one (Cell.w IntKind.u64 n)))], hp := [], nx := (0 : Nat) }))) (Tree.ret (Sum.inl (s, r, q, BitVec.ofInt (64 : Nat) (10 : Int) * n + (BitVec.setWidth (64 : Nat) (byteAt s i.toNat) - BitVec.ofInt (64 : Nat) (48 : Int)), IntKind.i64.wrap (i + (1 : Int)))))) Tree.fail))))) (Tree.ite false (Tree.ite true (Tree.ite true (Tree.ite false Tree.fail (Tree.ite true Tree.fail (Tree.ite true (Tree.ite true (Tree.ret (Sum.inr (Ex.ret, { env := [((2 : Nat), AV.p (Part.one (Cell.w IntKind.u64 (BitVec.ofInt (64 : Nat) (0 : Int))))), ((3 : Nat), AV.p (Part.one (Cell.v (Value.bool false)))), ((4 : Nat), AV.p (Part.one (Cell.w IntKind.u64 n)))], hp := [], nx := (0 : Nat) }))) (Tree.ret (Sum.inl (s, r, q, BitVec.ofInt (64 : Nat) (10 : Int) * n + (BitVec.setWidth (64 : Nat) (byteAt s i.toNat) - BitVec.ofInt (64 : Nat) (48 : Int)), IntKind.i64.wrap (i + (1 : Int)))))) Tree.fail))) (Tree.ite false Tree.fail (Tree.ite true (Tree.ite true (Tree.ret (Sum.inr (Ex.ret, { env := [((2 : Nat), AV.p (Part.one (Cell.w IntKind.u64 (BitVec.ofInt (64 : Nat) (0 : Int))))), ((3 : Nat), AV.p (Part.one (Cell.v (Value.bool false)))), ((4 : Nat), AV.p (Part.one (Cell.w IntKind.u64 n)))], hp := [], nx := (0 : Nat) }))) (Tree.ret (Sum.inl (s, r, q, BitVec.ofInt (64 : Nat) (10 : Int) * n + (BitVec.setWidth (64 : Nat) (byteAt s i.toNat) - BitVec.ofInt (64 : Nat) (48 : Int)), IntKind.i64.wrap (i + (1 : Int)))))) Tree.fail))) (Tree.ite false Tree.fail (Tree.ite false Tree.fail (Tree.ite true (Tree.ite true (Tree.ret (Sum.inr (Ex.ret, { env := [((2 : Nat), AV.p (Part.one (Cell.w IntKind.u64 (BitVec.ofInt (64 : Nat) (0 : Int))))), ((3 : Nat), AV.p (Part.one (Cell.v (Value.bool false)))), ((4 : Nat), AV.p (Part.one (Cell.w IntKind.u64 n)))], hp := [], nx := (0 : Nat) }))) (Tree.ret (Sum.inl (s, r, q, BitVec.ofInt (64 : Nat) (10 : Int) * n + (BitVec.setWidth (64 : Nat) (byteAt s i.toNat) - BitVec.ofInt (64 : Nat) (48 : Int)), IntKind.i64.wrap (i + (1 : Int)))))) Tree.fail)))) (Tree.ite false Tree.fail (Tree.ite false Tree.fail (Tree.ite false Tree.fail (Tree.ite true (Tree.ite true (Tree.ret (Sum.inr (Ex.ret, { env := [((2 : Nat), AV.p (Part.one (Cell.w IntKind.u64 (BitVec.ofInt (64 : Nat) (0 : Int))))), ((3 : Nat), AV.p (Part.one (Cell.v (Value.bool false)))), ((4 : Nat), AV.p (Part.one (Cell.w IntKind.u64 n)))], hp := [], nx := (0 : Nat) }))) (Tree.ret (Sum.inl (s, r, q, BitVec.ofInt (64 : Nat) (10 : Int) * n + (BitVec.setWidth (64 : Nat) (byteAt s i.toNat) - BitVec.ofInt (64 : Nat) (48 : Int)), IntKind.i64.wrap (i + (1 : Int)))))) Tree.fail)))))) Tree.fail))) (Tree.ite false Tree.fail (Tree.ite false Tree.fail (Tree.ite true (Tree.ite false (Tree.ite true (Tree.ite true (Tree.ite true (Tree.ite false Tree.fail (Tree.ite true (Tree.ite (bif false then true else (((BitVec.ofInt (64 : Nat) (18446744073709551615 : Int) - (BitVec.setWidth (64 : Nat) (byteAt s i.toNat) - BitVec.ofInt (64 : Nat) (48 : Int))) / BitVec.ofInt (64 : Nat) (10 : Int)).ult n)) (Tree.ret (Sum.inr (Ex.ret, { env := [((2 : Nat), AV.p (Part.one (Cell.w IntKind.u64 (BitVec.ofInt (64 : Nat) (0 : Int))))), ((3 : Nat), AV.p (Part.one (Cell.v (Value.bool false)))), ((4 : Nat), AV.p (Part.one (Cell.w IntKind.u64 n)))], hp := [], nx := (0 : Nat) }))) (Tree.ret (Sum.inl (s, r, q, BitVec.ofInt (64 : Nat) (10 : Int) * n + (BitVec.setWidth (64 : Nat) (byteAt s i.toNat) - BitVec.ofInt (64 : Nat) (48 : Int)), IntKind.i64.wrap (i + (1 : Int)))))) (Tree.ite true (Tree.ite true (Tree.ret (Sum.inr (Ex.ret, { env := [((2 : Nat), AV.p (Part.one (Cell.w IntKind.u64 (BitVec.ofInt (64 : Nat) (0 : Int))))), ((3 : Nat), AV.p (Part.one (Cell.v (Value.bool false)))), ((4 : Nat), AV.p (Part.one (Cell.w IntKind.u64 n)))], hp := [], nx := (0 : Nat) }))) (Tree.ret (Sum.inl (s, r, q, BitVec.ofInt (64 : Nat) (10 : Int) * n + (BitVec.setWidth (64 : Nat) (byteAt s i.toNat) - BitVec.ofInt (64 : Nat) (48 : Int)), IntKind.i64.wrap (i + (1 : Int)))))) Tree.fail))) (Tree.ite false Tree.fail (Tree.ite true (Tree.ite true (Tree.ret (Sum.inr (Ex.ret, { env := [((2 : Nat), AV.p (Part.one (Cell.w IntKind.u64 (BitVec.ofInt (64 : Nat) (0 : Int))))), ((3 : Nat), AV.p (Part.one (Cell.v (Value.bool false)))), ((4 : Nat), AV.p (Part.one (Cell.w IntKind.u64 n)))], hp := [], nx := (0 : Nat) }))) (Tree.ret (Sum.inl (s, r, q, BitVec.ofInt (64 : Nat) (10 : Int) * n + (BitVec.setWidth (64 : Nat) (byteAt s i.toNat) - BitVec.ofInt (64 : Nat) (48 : Int)), IntKind.i64.wrap (i + (1 : Int)))))) Tree.fail))) (Tree.ite false Tree.fail (Tree.ite false Tree.fail (Tree.ite true (Tree.ite true (Tree.ret (Sum.inr (Ex.ret, { env := [((2 : Nat), AV.p (Part.one (Cell.w IntKind.u64 (BitVec.ofInt (64 : Nat) (0 : Int))))), ((3 : Nat), AV.p (Part.one (Cell.v (Value.bool false)))), ((4 : Nat), AV.p (Part.one (Cell.w IntKind.u64 n)))], hp := [], nx := (0 : Nat) }))) (Tree.ret (Sum.inl (s, r, q, BitVec.ofInt (64 : Nat) (10 : Int) * n + (BitVec.setWidth (64 : Nat) (byteAt s i.toNat) - BitVec.ofInt (64 : Nat) (48 : Int)), IntKind.i64.wrap (i + (1 : Int)))))) Tree.fail)))) (Tree.ite false Tree.fail (Tree.ite false Tree.fail (Tree.ite false Tree.fail (Tree.ite true (Tree.ite true (Tree.ret (Sum.inr (Ex.ret, { env := [((2 : Nat), AV.p (Part.one (Cell.w IntKind.u64 (BitVec.ofInt (64 : Nat) (0 : Int))))), ((3 : Nat), AV.p (Part.one (Cell.v (Value.bool false)))), ((4 : Nat), AV.p (Part.one (Cell.w IntKind.u64 n)))], hp := [], nx := (0 : Nat) }))) (Tree.ret (Sum.inl (s, r, q, BitVec.ofInt (64 : Nat) (10 : Int) * n + (BitVec.setWidth (64 : Nat) (byteAt s i.toNat) - BitVec.ofInt (64 : Nat) (48 : Int)), IntKind.i64.wrap (i + (1 : Int)))))) Tree.fail))))) (Tree.ite false (Tree.ite true (Tree.ite true (Tree.ite false Tree.fail (Tree.ite true Tree.fail (Tree.ite true (Tree.ite true (Tree.ret (Sum.inr (Ex.ret, { env := [((2 : Nat), AV.p (Part.one (Cell.w IntKind.u64 (BitVec.ofInt (64 : Nat) (0 : Int))))), ((3 : Nat), AV.p (Part.one (Cell.v (Value.bool false)))), ((4 : Nat), AV.p (Part.one (Cell.w IntKind.u64 n)))], hp := [], nx := (0 : Nat) }))) (Tree.ret (Sum.inl (s, r, q, BitVec.ofInt (64 : Nat) (10 : Int) * n + (BitVec.setWidth (64 : Nat) (byteAt s i.toNat) - BitVec.ofInt (64 : Nat) (48 : Int)), IntKind.i64.wrap (i + (1 : Int)))))) Tree.fail))) (Tree.ite false Tree.fail (Tree.ite true (Tree.ite true (Tree.ret (Sum.inr (Ex.ret, { env := [((2 : Nat), AV.p (Part.one (Cell.w IntKind.u64 (BitVec.ofInt (64 : Nat) (0 : Int))))), ((3 : Nat), AV.p (Part.one (Cell.v (Value.bool false)))), ((4 : Nat), AV.p (Part.one (Cell.w IntKind.u64 n)))], hp := [], nx := (0 : Nat) }))) (Tree.ret (Sum.inl (s, r, q, BitVec.ofInt (64 : Nat) (10 : Int) * n + (BitVec.setWidth (64 : Nat) (byteAt s i.toNat) - BitVec.ofInt (64 : Nat) (48 : Int)), IntKind.i64.wrap (i + (1 : Int)))))) Tree.fail))) (Tree.ite false Tree.fail (Tree.ite false Tree.fail (Tree.ite true (Tree.ite true (Tree.ret (Sum.inr (Ex.ret, { env := [((2 : Nat), AV.p (Part.one (Cell.w IntKind.u64 (BitVec.ofInt (64 : Nat) (0 : Int))))), ((3 : Nat), AV.p (Part.one (Cell.v (Value.bool false)))), ((4 : Nat), AV.p (Part.one (Cell.w IntKind.u64 n)))], hp := [], nx := (0 : Nat) }))) (Tree.ret (Sum.inl (s, r, q, BitVec.ofInt (64 : Nat) (10 : Int) * n + (BitVec.setWidth (64 : Nat) (byteAt s i.toNat) - BitVec.ofInt (64 : Nat) (48 : Int)), IntKind.i64.wrap (i + (1 : Int)))))) Tree.fail)))) (Tree.ite false Tree.fail (Tree.ite false Tree.fail (Tree.ite false Tree.fail (Tree.ite true (Tree.ite true (Tree.ret (Sum.inr (Ex.ret, { env := [((2 : Nat), AV.p (Part.one (Cell.w IntKind.u64 (BitVec.ofInt (64 : Nat) (0 : Int))))), ((3 : Nat), AV.p (Part.one (Cell.v (Value.bool false)))), ((4 : Nat), AV.p (Part.one (Cell.w IntKind.u64 n)))], hp := [], nx := (0 : Nat) }))) (Tree.ret (Sum.inl (s, r, q, BitVec.ofInt (64 : Nat) (10 : Int) * n + (BitVec.setWidth (64 : Nat) (byteAt s i.toNat) - BitVec.ofInt (64 : Nat) (48 : Int)), IntKind.i64.wrap (i + (1 : Int)))))) Tree.fail)))))) Tree.fail)))) (Tree.ite false (Tree.ite true Tree.fail (Tree.ite false Tree.fail (Tree.ite true (Tree.ite false (Tree.ite true (Tree.ite true (Tree.ite true (Tree.ite false Tree.fail (Tree.ite true (Tree.ite (bif false then true else (((BitVec.ofInt (64 : Nat) (18446744073709551615 : Int) - (BitVec.setWidth (64 : Nat) (byteAt s i.toNat) - BitVec.ofInt (64 : Nat) (48 : Int))) / BitVec.ofInt (64 : Nat) (10 : Int)).ult n)) (Tree.ret (Sum.inr (Ex.ret, { env := [((2 : Nat), AV.p (Part.one (Cell.w IntKind.u64 (BitVec.ofInt (64 : Nat) (0 : Int))))), ((3 : Nat), AV.p (Part.one (Cell.v (Value.bool false)))), ((4 : Nat), AV.p (Part.one (Cell.w IntKind.u64 n)))], hp := [], nx := (0 : Nat) }))) (Tree.ret (Sum.inl (s, r, q, BitVec.ofInt (64 : Nat) (10 : Int) * n + (BitVec.setWidth (64 : Nat) (byteAt s i.toNat) - BitVec.ofInt (64 : Nat) (48 : Int)), IntKind.i64.wrap (i + (1 : Int)))))) (Tree.ite true (Tree.ite true (Tree.ret (Sum.inr (Ex.ret, { env := [((2 : Nat), AV.p (Part.one (Cell.w IntKind.u64 (BitVec.ofInt (64 : Nat) (0 : Int))))), ((3 : Nat), AV.p (Part.one (Cell.v (Value.bool false)))), ((4 : Nat), AV.p (Part.one (Cell.w IntKind.u64 n)))], hp := [], nx := (0 : Nat) }))) (Tree.ret (Sum.inl (s, r, q, BitVec.ofInt (64 : Nat) (10 : Int) * n + (BitVec.setWidth (64 : Nat) (byteAt s i.toNat) - BitVec.ofInt (64 : Nat) (48 : Int)), IntKind.i64.wrap (i + (1 : Int)))))) Tree.fail))) (Tree.ite false Tree.fail (Tree.ite true (Tree.ite true (Tree.ret (Sum.inr (Ex.ret, { env := [((2 : Nat), AV.p (Part.one (Cell.w IntKind.u64 (BitVec.ofInt (64 : Nat) (0 : Int))))), ((3 : Nat), AV.p (Part.one (Cell.v (Value.bool false)))), ((4 : Nat), AV.p (Part.one (Cell.w IntKind.u64 n)))], hp := [], nx := (0 : Nat) }))) (Tree.ret (Sum.inl (s, r, q, BitVec.ofInt (64 : Nat) (10 : Int) * n + (BitVec.setWidth (64 : Nat) (byteAt s i.toNat) - BitVec.ofInt (64 : Nat) (48 : Int)), IntKind.i64.wrap (i + (1 : Int)))))) Tree.fail))) (Tree.ite false Tree.fail (Tree.ite false Tree.fail (Tree.ite true (Tree.ite true (Tree.ret (Sum.inr (Ex.ret, { env := [((2 : Nat), AV.p (Part.one (Cell.w IntKind.u64 (BitVec.ofInt (64 : Nat) (0 : Int))))), ((3 : Nat), AV.p (Part.one (Cell.v (Value.bool false)))), ((4 : Nat), AV.p (Part.one (Cell.w IntKind.u64 n)))], hp := [], nx := (0 : Nat) }))) (Tree.ret (Sum.inl (s, r, q, BitVec.ofInt (64 : Nat) (10 : Int) * n + (BitVec.setWidth (64 : Nat) (byteAt s i.toNat) - BitVec.ofInt (64 : Nat) (48 : Int)), IntKind.i64.wrap (i + (1 : Int)))))) Tree.fail)))) (Tree.ite false Tree.fail (Tree.ite false Tree.fail (Tree.ite false Tree.fail (Tree.ite true (Tree.ite true (Tree.ret (Sum.inr (Ex.ret, { env := [((2 : Nat), AV.p (Part.one (Cell.w IntKind.u64 (BitVec.ofInt (64 : Nat) (0 : Int))))), ((3 : Nat), AV.p (Part.one (Cell.v (Value.bool false)))), ((4 : Nat), AV.p (Part.one (Cell.w IntKind.u64 n)))], hp := [], nx := (0 : Nat) }))) (Tree.ret (Sum.inl (s, r, q, BitVec.ofInt (64 : Nat) (10 : Int) * n + (BitVec.setWidth (64 : Nat) (byteAt s i.toNat) - BitVec.ofInt (64 : Nat) (48 : Int)), IntKind.i64.wrap (i + (1 : Int)))))) Tree.fail))))) (Tree.ite false (Tree.ite true (Tree.ite true (Tree.ite false Tree.fail (Tree.ite true Tree.fail (Tree.ite true (Tree.ite true (Tree.ret (Sum.inr (Ex.ret, { env := [((2 : Nat), AV.p (Part.one (Cell.w IntKind.u64 (BitVec.ofInt (64 : Nat) (0 : Int))))), ((3 : Nat), AV.p (Part.one (Cell.v (Value.bool false)))), ((4 : Nat), AV.p (Part.one (Cell.w IntKind.u64 n)))], hp := [], nx := (0 : Nat) }))) (Tree.ret (Sum.inl (s, r, q, BitVec.ofInt (64 : Nat) (10 : Int) * n + (BitVec.setWidth (64 : Nat) (byteAt s i.toNat) - BitVec.ofInt (64 : Nat) (48 : Int)), IntKind.i64.wrap (i + (1 : Int)))))) Tree.fail))) (Tree.ite false Tree.fail (Tree.ite true (Tree.ite true (Tree.ret (Sum.inr (Ex.ret, { env := [((2 : Nat), AV.p (Part.one (Cell.w IntKind.u64 (BitVec.ofInt (64 : Nat) (0 : Int))))), ((3 : Nat), AV.p (Part.one (Cell.v (Value.bool false)))), ((4 : Nat), AV.p (Part.one (Cell.w IntKind.u64 n)))], hp := [], nx := (0 : Nat) }))) (Tree.ret (Sum.inl (s, r, q, BitVec.ofInt (64 : Nat) (10 : Int) * n + (BitVec.setWidth (64 : Nat) (byteAt s i.toNat) - BitVec.ofInt (64 : Nat) (48 : Int)), IntKind.i64.wrap (i + (1 : Int)))))) Tree.fail))) (Tree.ite false Tree.fail (Tree.ite false Tree.fail (Tree.ite true (Tree.ite true (Tree.ret (Sum.inr (Ex.ret, { env := [((2 : Nat), AV.p (Part.one (Cell.w IntKind.u64 (BitVec.ofInt (64 : Nat) (0 : Int))))), ((3 : Nat), AV.p (Part.one (Cell.v (Value.bool false)))), ((4 : Nat), AV.p (Part.one (Cell.w IntKind.u64 n)))], hp := [], nx := (0 : Nat) }))) (Tree.ret (Sum.inl (s, r, q, BitVec.ofInt (64 : Nat) (10 : Int) * n + (BitVec.setWidth (64 : Nat) (byteAt s i.toNat) - BitVec.ofInt (64 : Nat) (48 : Int)), IntKind.i64.wrap (i + (1 : Int)))))) Tree.fail)))) (Tree.ite false Tree.fail (Tree.ite false Tree.fail (Tree.ite false Tree.fail (Tree.ite true (Tree.ite true (Tree.ret (Sum.inr (Ex.ret, { env := [((2 : Nat), AV.p (Part.one (Cell.w IntKind.u64 (BitVec.ofInt (64 : Nat) (0 : Int))))), ((3 : Nat), AV.p (Part.one (Cell.v (Value.bool false)))), ((4 : Nat), AV.p (Part.one (Cell.w IntKind.u64 n)))], hp := [], nx := (0 : Nat) }))) (Tree.ret (Sum.inl (s, r, q, BitVec.ofInt (64 : Nat) (10 : Int) * n + (BitVec.setWidth (64 : Nat) (byteAt s i.toNat) - BitVec.ofInt (64 : Nat) (48 : Int)), IntKind.i64.wrap (i + (1 : Int)))))) Tree.fail)))))) Tree.fail))) (Tree.ite false Tree.fail (Tree.ite false Tree.fail (Tree.ite true (Tree.ite false (Tree.ite true (Tree.ite true (Tree.ite true (Tree.ite false Tree.fail (Tree.ite true (Tree.ite (bif false then true else (((BitVec.ofInt (64 : Nat) (18446744073709551615 : Int) - (BitVec.setWidth (64 : Nat) (byteAt s i.toNat) - BitVec.ofInt (64 : Nat) (48 : Int))) / BitVec.ofInt (64 : Nat) (10 : Int)).ult n)) (Tree.ret (Sum.inr (Ex.ret, { env := [((2 : Nat), AV.p (Part.one (Cell.w IntKind.u64 (BitVec.ofInt (64 : Nat) (0 : Int))))), ((3 : Nat), AV.p (Part.one (Cell.v (Value.bool false)))), ((4 : Nat), AV.p (Part.one (Cell.w IntKind.u64 n)))], hp := [], nx := (0 : Nat) }))) (Tree.ret (Sum.inl (s, r, q, BitVec.ofInt (64 : Nat) (10 : Int) * n + (BitVec.setWidth (64 : Nat) (byteAt s i.toNat) - BitVec.ofInt (64 : Nat) (48 : Int)), IntKind.i64.wrap (i + (1 : Int)))))) (Tree.ite true (Tree.ite true (Tree.ret (Sum.inr (Ex.ret, { env := [((2 : Nat), AV.p (Part.one (Cell.w IntKind.u64 (BitVec.ofInt (64 : Nat) (0 : Int))))), ((3 : Nat), AV.p (Part.one (Cell.v (Value.bool false)))), ((4 : Nat), AV.p (Part.one (Cell.w IntKind.u64 n)))], hp := [], nx := (0 : Nat) }))) (Tree.ret (Sum.inl (s, r, q, BitVec.ofInt (64 : Nat) (10 : Int) * n + (BitVec.setWidth (64 : Nat) (byteAt s i.toNat) - BitVec.ofInt (64 : Nat) (48 : Int)), IntKind.i64.wrap (i + (1 : Int)))))) Tree.fail))) (Tree.ite false Tree.fail (Tree.ite true (Tree.ite true (Tree.ret (Sum.inr (Ex.ret, { env := [((2 : Nat), AV.p (Part.one (Cell.w IntKind.u64 (BitVec.ofInt (64 : Nat) (0 : Int))))), ((3 : Nat), AV.p (Part.one (Cell.v (Value.bool false)))), ((4 : Nat), AV.p (Part.one (Cell.w IntKind.u64 n)))], hp := [], nx := (0 : Nat) }))) (Tree.ret (Sum.inl (s, r, q, BitVec.ofInt (64 : Nat) (10 : Int) * n + (BitVec.setWidth (64 : Nat) (byteAt s i.toNat) - BitVec.ofInt (64 : Nat) (48 : Int)), IntKind.i64.wrap (i + (1 : Int)))))) Tree.fail))) (Tree.ite false Tree.fail (Tree.ite false Tree.fail (Tree.ite true (Tree.ite true (Tree.ret (Sum.inr (Ex.ret, { env := [((2 : Nat), AV.p (Part.one (Cell.w IntKind.u64 (BitVec.ofInt (64 : Nat) (0 : Int))))), ((3 : Nat), AV.p (Part.one (Cell.v (Value.bool false)))), ((4 : Nat), AV.p (Part.one (Cell.w IntKind.u64 n)))], hp := [], nx := (0 : Nat) }))) (Tree.ret (Sum.inl (s, r, q, BitVec.ofInt (64 : Nat) (10 : Int) * n + (BitVec.setWidth (64 : Nat) (byteAt s i.toNat) - BitVec.ofInt (64 : Nat) (48 : Int)), IntKind.i64.wrap (i + (1 : Int)))))) Tree.fail)))) (Tree.ite false Tree.fail (Tree.ite false Tree.fail (Tree.ite false Tree.fail (Tree.ite true (Tree.ite true (Tree.ret (Sum.inr (Ex.ret, { env := [((2 : Nat), AV.p (Part.one (Cell.w IntKind.u64 (BitVec.ofInt (64 : Nat) (0 : Int))))), ((3 : Nat), AV.p (Part.one (Cell.v (Value.bool false)))), ((4 : Nat), AV.p (Part.one (Cell.w IntKind.u64 n)))], hp := [], nx := (0 : Nat) }))) (Tree.ret (Sum.inl (s, r, q, BitVec.ofInt (64 : Nat) (10 : Int) * n + (BitVec.setWidth (64 : Nat) (byteAt s i.toNat) - BitVec.ofInt (64 : Nat) (48 : Int)), IntKind.i64.wrap (i + (1 : Int)))))) Tree.fail))))) (Tree.ite false (Tree.ite true (Tree.ite true (Tree.ite false Tree.fail (Tree.ite true Tree.fail (Tree.ite true (Tree.ite true (Tree.ret (Sum.inr (Ex.ret, { env := [((2 : Nat), AV.p (Part.one (Cell.w IntKind.u64 (BitVec.ofInt (64 : Nat) (0 : Int))))), ((3 : Nat), AV.p (Part.one (Cell.v (Value.bool false)))), ((4 : Nat), AV.p (Part.one (Cell.w IntKind.u64 n)))], hp := [], nx := (0 : Nat) }))) (Tree.ret (Sum.inl (s, r, q, BitVec.ofInt (64 : Nat) (10 : Int) * n + (BitVec.setWidth (64 : Nat) (byteAt s i.toNat) - BitVec.ofInt (64 : Nat) (48 : Int)), IntKind.i64.wrap (i + (1 : Int)))))) Tree.fail))) (Tree.ite false Tree.fail (Tree.ite true (Tree.ite true (Tree.ret (Sum.inr (Ex.ret, { env := [((2 : Nat), AV.p (Part.one (Cell.w IntKind.u64 (BitVec.ofInt (64 : Nat) (0 : Int))))), ((3 : Nat), AV.p (Part.one (Cell.v (Value.bool false)))), ((4 : Nat), AV.p (Part.one (Cell.w IntKind.u64 n)))], hp := [], nx := (0 : Nat) }))) (Tree.ret (Sum.inl (s, r, q, BitVec.ofInt (64 : Nat) (10 : Int) * n + (BitVec.setWidth (64 : Nat) (byteAt s i.toNat) - BitVec.ofInt (64 : Nat) (48 : Int)), IntKind.i64.wrap (i + (1 : Int)))))) Tree.fail))) (Tree.ite false Tree.fail (Tree.ite false Tree.fail (Tree.ite true (Tree.ite true (Tree.ret (Sum.inr (Ex.ret, { env := [((2 : Nat), AV.p (Part.one (Cell.w IntKind.u64 (BitVec.ofInt (64 : Nat) (0 : Int))))), ((3 : Nat), AV.p (Part.one (Cell.v (Value.bool false)))), ((4 : Nat), AV.p (Part.one (Cell.w IntKind.u64 n)))], hp := [], nx := (0 : Nat) }))) (Tree.ret (Sum.inl (s, r, q, BitVec.ofInt (64 : Nat) (10 : Int) * n + (BitVec.setWidth (64 : Nat) (byteAt s i.toNat) - BitVec.ofInt (64 : Nat) (48 : Int)), IntKind.i64.wrap (i + (1 : Int)))))) Tree.fail)))) (Tree.ite false Tree.fail (Tree.ite false Tree.fail (Tree.ite false Tree.fail (Tree.ite true (Tree.ite true (Tree.ret (Sum.inr (Ex.ret, { env := [((2 : Nat), AV.p (Part.one (Cell.w IntKind.u64 (BitVec.ofInt (64 : Nat) (0 : Int))))), ((3 : Nat), AV.p (Part.one (Cell.v (Value.bool false)))), ((4 : Nat), AV.p (Part.one (Cell.w IntKind.u64 n)))], hp := [], nx := (0 : Nat) }))) (Tree.ret (Sum.inl (s, r, q, BitVec.ofInt (64 : Nat) (10 : Int) * n + (BitVec.setWidth (64 : Nat) (byteAt s i.toNat) - BitVec.ofInt (64 : Nat) (48 : Int)), IntKind.i64.wrap (i + (1 : Int)))))) Tree.fail)))))) Tree.fail))))) Tree.fail) Tree.fail) (Tree.ret (Sum.inr (Ex.exit (0 : Nat), { env := [((2 : Nat), AV.p (Part.one (Cell.w IntKind.u64 r))), ((3 : Nat), AV.p (Part.one (Cell.v (Value.bool q)))), ((4 : Nat), AV.p (Part.one (Cell.w IntKind.u64 n)))], hp := [], nx := (0 : Nat) })))
theorem turn_plain : ∀ a : A_plain, (turnT 0 orc_plain (evalCode Tryz.prog (lk L_trim) Tryz.f281.ntmps 0 20 LT_plain (bodyAt c_plain p_plain) false (0 :: p_plain)) (sh_plain.enc (e_plain a))).run = ((T_plain a).bind fun s => .ret (turnV sh_plain e_plain s)).run := by
  rintro ⟨s, r, q, n, i⟩
  exact congrArg Tree.run (by kernel_rfl)
def μ_plain : A_plain → Nat := fun ⟨s, r, q, n, i⟩ => (s.size - i).toNat
theorem step_plain : ∀ a : A_plain, I_plain a → (∃ a', (T_plain a).run = some (.inl a') ∧ I_plain a' ∧ μ_plain a' < μ_plain a ∧ (G_plain a').run = (G_plain a).run) ∨ (∃ y, (T_plain a).run = some (.inr y) ∧ (G_plain a).run = some y ∧ ((∃ id, y.1 = .exit id) ∨ y.1 = .ret)) := by
  rintro ⟨s, r, q, n, i⟩ ⟨h1, h2, h3⟩
  simp only [T_plain]
  have w1 : IntKind.i64.wrap (i + 1) = i + 1 := wrap64 (n := i + 1) (by omega) (by omega)
  by_cases hi : i < s.size
  · rw [goTd hi, goTa ⟨h1, hi⟩, goTa ⟨h1, hi⟩]
    have hf : s.size - i.toNat = (s.size - (i + 1).toNat) + 1 := by omega
    have hs : (i + 1).toNat = i.toNat + 1 := by omega
    have hp : plGo (s.size - i.toNat) s i.toNat n = bif plBad (byteAt s i.toNat) n then (n, false) else plGo (s.size - (i + 1).toNat) s (i + 1).toNat (BitVec.ofInt 64 10 * n + dv (byteAt s i.toNat)) := by
      rw [hf, hs]; rfl
    have bad : plBad (byteAt s i.toNat) n = true → (G_plain (s, r, q, n, i)).run = some (Ex.ret, ⟨[(2, AV.c (.w .u64 (BitVec.ofInt 64 0))), (3, AV.c (.v (.bool false))), (4, AV.c (.w .u64 n))], [], 0⟩) := fun hb => by
      simp only [G_plain]
      rw [hp, hb]; rfl
    have good : plBad (byteAt s i.toNat) n = false → I_plain (s, r, q, BitVec.ofInt 64 10 * n + dv (byteAt s i.toNat), i + 1) ∧ μ_plain (s, r, q, BitVec.ofInt 64 10 * n + dv (byteAt s i.toNat), i + 1) < μ_plain (s, r, q, n, i) ∧ (G_plain (s, r, q, BitVec.ofInt 64 10 * n + dv (byteAt s i.toNat), i + 1)).run = (G_plain (s, r, q, n, i)).run := fun hb => by
      refine ⟨⟨by omega, by omega, h3⟩, by simp only [μ_plain]; omega, ?_⟩
      simp only [G_plain]
      rw [hp, hb, cond_false]
    cases e1 : (byteAt s i.toNat).ult (BitVec.ofInt 8 48) with
    | true =>
      right
      exact ⟨_, rfl, bad (by unfold plBad; rw [e1]; rfl), .inr rfl⟩
    | false =>
      rw [goTN rfl, goT rfl, goT rfl, goTa ⟨h1, hi⟩, goT rfl]
      cases e2 : (BitVec.ofInt 8 57).ult (byteAt s i.toNat) with
      | true =>
        right
        exact ⟨_, rfl, bad (by unfold plBad; rw [e1, e2]; rfl), .inr rfl⟩
      | false =>
        rw [goTN rfl, goT rfl, goT rfl, goT rfl, goF rfl, goT rfl]
        cases e3 : ((BitVec.ofInt 64 18446744073709551615 - (BitVec.setWidth 64 (byteAt s i.toNat) - BitVec.ofInt 64 48)) / BitVec.ofInt 64 10).ult n with
        | true =>
          right
          exact ⟨_, rfl, bad (by unfold plBad dv; rw [e1, e2, e3]; rfl), .inr rfl⟩
        | false =>
          left
          rw [goF (show (bif false then true else false) = false from rfl), w1]
          exact ⟨_, rfl, good (by unfold plBad dv; rw [e1, e2, e3]; rfl)⟩
  · right
    rw [goFd hi]
    refine ⟨_, rfl, ?_, .inl ⟨0, rfl⟩⟩
    simp only [G_plain]
    rw [show s.size - i.toNat = 0 by omega]
    rfl
theorem lok_plain : LOk Tryz.prog (lk L_trim) Tryz.f281.ntmps 0 20 LT_plain c_plain := lok_view (noL_ok2 _ _ _ _ _ _ _) (by kernel_rfl) e_plain (by rintro ⟨⟨s, r, q, n, i, ⟨⟩⟩, ⟨⟩⟩; exact ⟨(s, r, q, n, i), rfl⟩) T_plain turn_plain I_plain G_plain (by rintro ⟨s, r, q, n, i⟩; rfl) μ_plain step_plain
def ea_plain : ByteArray → denAs [.c .s] := fun s => (s, ())
def eo_plain : ByteArray → denObs [] := fun s => ()
noncomputable def E_plain : ByteArray → Tree (AV × List Ob) := fun s => 
Tree.ite (!(↑s.size : Int) == (0 : Int)) (Tree.ite (!decide ((20 : Int) < (↑s.size : Int))) (Tree.ite (true && decide ((0 : Int) < (↑s.size : Int))) (Tree.ite (byteAt s (0 : Nat) == BitVec.ofInt (8 : Nat) (48 : Int)) (Tree.ite (decide ((1 : Int) < (↑s.size : Int))) (Tree.ret (AV.t [Part.one (Cell.w IntKind.u64 (BitVec.ofInt (64 : Nat) (0 : Int))), Part.one (Cell.v (Value.bool false))], [])) (Tree.ite (decC ((0 : Int) ≤ (0 : Int) ∧ (0 : Int) ≤ (↑s.size : Int) ∧ s.size ≤ (65536 : Nat))) (Tree.ite (plGo (s.size - (0 : Nat)) s (0 : Nat) (BitVec.ofInt (64 : Nat) (0 : Int))).snd (Tree.ret (AV.t [Part.one (Cell.w IntKind.u64 (plGo (s.size - (0 : Nat)) s (0 : Nat) (BitVec.ofInt (64 : Nat) (0 : Int))).fst), Part.one (Cell.v (Value.bool true))], [])) (Tree.ret (AV.t [Part.one (Cell.w IntKind.u64 (BitVec.ofInt (64 : Nat) (0 : Int))), Part.one (Cell.v (Value.bool false))], []))) Tree.fail)) (Tree.ite (decC ((0 : Int) ≤ (0 : Int) ∧ (0 : Int) ≤ (↑s.size : Int) ∧ s.size ≤ (65536 : Nat))) (Tree.ite (plGo (s.size - (0 : Nat)) s (0 : Nat) (BitVec.ofInt (64 : Nat) (0 : Int))).snd (Tree.ret (AV.t [Part.one (Cell.w IntKind.u64 (plGo (s.size - (0 : Nat)) s (0 : Nat) (BitVec.ofInt (64 : Nat) (0 : Int))).fst), Part.one (Cell.v (Value.bool true))], [])) (Tree.ret (AV.t [Part.one (Cell.w IntKind.u64 (BitVec.ofInt (64 : Nat) (0 : Int))), Part.one (Cell.v (Value.bool false))], []))) Tree.fail)) Tree.fail) (Tree.ret (AV.t [Part.one (Cell.w IntKind.u64 (BitVec.ofInt (64 : Nat) (0 : Int))), Part.one (Cell.v (Value.bool false))], []))) (Tree.ret (AV.t [Part.one (Cell.w IntKind.u64 (BitVec.ofInt (64 : Nat) (0 : Int))), Part.one (Cell.v (Value.bool false))], []))
noncomputable def F_plain : denAs [.c .s] → denObs [] → Tree (AV × List Ob) := fun x y => match x, y with
  | (s, ()), () => ckP (s.size ≤ 65536) (.ret (.t [.one (.w .u64 (pl s).1), .one (.v (.bool (pl s).2))], []))
theorem ev_plain : ∀ a, (evalFnL Tryz.prog (lk L_trim) 20 LT_plain Tryz.f281 c_plain [] (encAs [.c .s] (ea_plain a)) (encOs [] (eo_plain a))).run = (E_plain a).run := by
  rintro s
  kernel_rfl
theorem fe_plain : ∀ a y, (F_plain (ea_plain a) (eo_plain a)).run = some y → (E_plain a).run = some y := by
  intro s y h
  obtain ⟨h1, h⟩ := ckP_run h
  rw [← h]
  dsimp only [E_plain]
  have fin : (decide (s.size = 0) || (decide (20 < s.size) || ((byteAt s 0 == BitVec.ofInt 8 48) && decide (1 < s.size)))) = false →
      (Tree.ite (decC ((0 : Int) ≤ 0 ∧ (0 : Int) ≤ s.size ∧ s.size ≤ 65536)) (Tree.ite (plGo (s.size - 0) s 0 (BitVec.ofInt 64 0)).snd (Tree.ret (AV.t [Part.one (Cell.w IntKind.u64 (plGo (s.size - 0) s 0 (BitVec.ofInt 64 0)).fst), Part.one (Cell.v (Value.bool true))], ([] : List Ob))) (Tree.ret (AV.t [Part.one (Cell.w IntKind.u64 (BitVec.ofInt 64 0)), Part.one (Cell.v (Value.bool false))], []))) Tree.fail).run = some (.t [.one (.w .u64 (pl s).1), .one (.v (.bool (pl s).2))], []) := fun hA => by
    refine (ckP_true ⟨Int.le_refl 0, by omega, h1⟩ _).trans ?_
    have e : pl s = plZ (plGo s.size s 0 (BitVec.ofInt 64 0)) := by unfold pl; rw [hA]; rfl
    rw [e, Nat.sub_zero]
    unfold plZ
    cases hg : (plGo s.size s 0 (BitVec.ofInt 64 0)).snd with
    | true => rw [goT rfl, cond_true, hg]; rfl
    | false => rw [goF rfl, cond_false]; rfl
  have bad : (decide (s.size = 0) || (decide (20 < s.size) || ((byteAt s 0 == BitVec.ofInt 8 48) && decide (1 < s.size)))) = true →
      (some (AV.t [Part.one (Cell.w IntKind.u64 (BitVec.ofInt 64 0)), Part.one (Cell.v (Value.bool false))], ([] : List Ob))) = some (.t [.one (.w .u64 (pl s).1), .one (.v (.bool (pl s).2))], []) := fun hA => by
    have e : pl s = (BitVec.ofInt 64 0, false) := by unfold pl; rw [hA]; rfl
    rw [e]
  by_cases h0 : s.size = 0
  · rw [goF (by simp [h0])]
    exact bad (by rw [decide_eq_true h0]; rfl)
  rw [goT (by rw [Bool.not_eq_true', beq_eq_false_iff_ne]; omega)]
  by_cases h20 : 20 < s.size
  · rw [goFn (by omega)]
    exact bad (by rw [decide_eq_true h20]; simp)
  rw [goTn (by omega), goT (by rw [Bool.true_and]; exact decide_eq_true (by omega))]
  cases hb : byteAt s 0 == BitVec.ofInt 8 48 with
  | false =>
    rw [goF rfl]
    exact fin (by rw [decide_eq_false h0, decide_eq_false h20, hb]; rfl)
  | true =>
    rw [goT rfl]
    by_cases h2 : 1 < s.size
    · rw [goTd (by omega)]
      exact bad (by rw [hb, decide_eq_true h2]; simp)
    · rw [goFd (by omega)]
      exact fin (by rw [decide_eq_false h0, decide_eq_false h20, hb, decide_eq_false h2]; rfl)
theorem ok_plain : SummOk Kn Tryz.prog 281 (sumT [.any] false [.c .s] [] F_plain) := sumT_view tok_trim Tryz.checked.mixed Tryz.func281 (by kernel_rfl) (by rfl) 20 [] ea_plain eo_plain
  (by rintro ⟨s, ⟨⟩⟩ ⟨⟩; exact ⟨s, rfl, rfl⟩) LT_plain 0 (by rintro ⟨⟩; rfl) lok_plain E_plain ev_plain fe_plain
noncomputable def L_plain : List (Nat × Summ) := (281, (sumT [.any] false [.c .s] [] F_plain)) :: L_trim
theorem tok_plain : TOk Kn Tryz.prog (lk L_plain) := lk_cons ok_plain tok_trim
def ea_number : ByteArray × Int × Int → denAs [.c .s, .c (.i .i64), .c (.i .i64)] := fun ⟨s, lo, hi⟩ => (s, lo, hi, ())
def eo_number : ByteArray × Int × Int → denObs [] := fun ⟨s, lo, hi⟩ => ()
noncomputable def E_number : ByteArray × Int × Int → Tree (AV × List Ob) := fun ⟨s, lo, hi⟩ => 
Tree.ite (decide ((0 : Int) < (↑s.size : Int))) (Tree.ite (true && decide ((0 : Int) < (↑s.size : Int))) (Tree.ite (byteAt s (0 : Nat) == BitVec.ofInt (8 : Nat) (45 : Int)) (Tree.ite (true && decide ((1 : Int) ≤ (↑s.size : Int))) (Tree.ite (decC ((s.extract (1 : Nat) s.size).size ≤ (65536 : Nat))) (Tree.ite (!!(pl (s.extract (1 : Nat) s.size)).snd) (Tree.ite (!(BitVec.ofInt (64 : Nat) (4611686018427387904 : Int)).ult (pl (s.extract (1 : Nat) s.size)).fst) (Tree.ite (byteAt s (0 : Nat) == BitVec.ofInt (8 : Nat) (45 : Int)) (Tree.ite ((pl (s.extract (1 : Nat) s.size)).fst == BitVec.ofInt (64 : Nat) (0 : Int)) (Tree.ret (AV.t [Part.one (Cell.v (Value.int IntKind.i64 (0 : Int))), Part.one (Cell.v (Value.bool false))], [])) (Tree.ite (byteAt s (0 : Nat) == BitVec.ofInt (8 : Nat) (45 : Int)) (Tree.ite (decide (lo ≤ IntKind.i64.wrap ((0 : Int) - (pl (s.extract (1 : Nat) s.size)).fst.toInt))) (Tree.ret (AV.t [Part.one (Cell.v (Value.int IntKind.i64 (IntKind.i64.wrap ((0 : Int) - (pl (s.extract (1 : Nat) s.size)).fst.toInt)))), Part.one (Cell.v (Value.bool (decide (IntKind.i64.wrap ((0 : Int) - (pl (s.extract (1 : Nat) s.size)).fst.toInt) ≤ hi))))], [])) (Tree.ret (AV.t [Part.one (Cell.v (Value.int IntKind.i64 (IntKind.i64.wrap ((0 : Int) - (pl (s.extract (1 : Nat) s.size)).fst.toInt)))), Part.one (Cell.v (Value.bool false))], []))) (Tree.ite (decide (lo ≤ (pl (s.extract (1 : Nat) s.size)).fst.toInt)) (Tree.ret (AV.t [Part.one (Cell.v (Value.int IntKind.i64 (pl (s.extract (1 : Nat) s.size)).fst.toInt)), Part.one (Cell.v (Value.bool (decide ((pl (s.extract (1 : Nat) s.size)).fst.toInt ≤ hi))))], [])) (Tree.ret (AV.t [Part.one (Cell.v (Value.int IntKind.i64 (pl (s.extract (1 : Nat) s.size)).fst.toInt)), Part.one (Cell.v (Value.bool false))], []))))) (Tree.ite (byteAt s (0 : Nat) == BitVec.ofInt (8 : Nat) (45 : Int)) (Tree.ite (decide (lo ≤ IntKind.i64.wrap ((0 : Int) - (pl (s.extract (1 : Nat) s.size)).fst.toInt))) (Tree.ret (AV.t [Part.one (Cell.v (Value.int IntKind.i64 (IntKind.i64.wrap ((0 : Int) - (pl (s.extract (1 : Nat) s.size)).fst.toInt)))), Part.one (Cell.v (Value.bool (decide (IntKind.i64.wrap ((0 : Int) - (pl (s.extract (1 : Nat) s.size)).fst.toInt) ≤ hi))))], [])) (Tree.ret (AV.t [Part.one (Cell.v (Value.int IntKind.i64 (IntKind.i64.wrap ((0 : Int) - (pl (s.extract (1 : Nat) s.size)).fst.toInt)))), Part.one (Cell.v (Value.bool false))], []))) (Tree.ite (decide (lo ≤ (pl (s.extract (1 : Nat) s.size)).fst.toInt)) (Tree.ret (AV.t [Part.one (Cell.v (Value.int IntKind.i64 (pl (s.extract (1 : Nat) s.size)).fst.toInt)), Part.one (Cell.v (Value.bool (decide ((pl (s.extract (1 : Nat) s.size)).fst.toInt ≤ hi))))], [])) (Tree.ret (AV.t [Part.one (Cell.v (Value.int IntKind.i64 (pl (s.extract (1 : Nat) s.size)).fst.toInt)), Part.one (Cell.v (Value.bool false))], []))))) (Tree.ret (AV.t [Part.one (Cell.v (Value.int IntKind.i64 (0 : Int))), Part.one (Cell.v (Value.bool false))], []))) (Tree.ret (AV.t [Part.one (Cell.v (Value.int IntKind.i64 (0 : Int))), Part.one (Cell.v (Value.bool false))], []))) Tree.fail) Tree.fail) (Tree.ite (decC (s.size ≤ (65536 : Nat))) (Tree.ite (!!(pl s).snd) (Tree.ite (!(BitVec.ofInt (64 : Nat) (4611686018427387904 : Int)).ult (pl s).fst) (Tree.ite (byteAt s (0 : Nat) == BitVec.ofInt (8 : Nat) (45 : Int)) (Tree.ite ((pl s).fst == BitVec.ofInt (64 : Nat) (0 : Int)) (Tree.ret (AV.t [Part.one (Cell.v (Value.int IntKind.i64 (0 : Int))), Part.one (Cell.v (Value.bool false))], [])) (Tree.ite (byteAt s (0 : Nat) == BitVec.ofInt (8 : Nat) (45 : Int)) (Tree.ite (decide (lo ≤ IntKind.i64.wrap ((0 : Int) - (pl s).fst.toInt))) (Tree.ret (AV.t [Part.one (Cell.v (Value.int IntKind.i64 (IntKind.i64.wrap ((0 : Int) - (pl s).fst.toInt)))), Part.one (Cell.v (Value.bool (decide (IntKind.i64.wrap ((0 : Int) - (pl s).fst.toInt) ≤ hi))))], [])) (Tree.ret (AV.t [Part.one (Cell.v (Value.int IntKind.i64 (IntKind.i64.wrap ((0 : Int) - (pl s).fst.toInt)))), Part.one (Cell.v (Value.bool false))], []))) (Tree.ite (decide (lo ≤ (pl s).fst.toInt)) (Tree.ret (AV.t [Part.one (Cell.v (Value.int IntKind.i64 (pl s).fst.toInt)), Part.one (Cell.v (Value.bool (decide ((pl s).fst.toInt ≤ hi))))], [])) (Tree.ret (AV.t [Part.one (Cell.v (Value.int IntKind.i64 (pl s).fst.toInt)), Part.one (Cell.v (Value.bool false))], []))))) (Tree.ite (byteAt s (0 : Nat) == BitVec.ofInt (8 : Nat) (45 : Int)) (Tree.ite (decide (lo ≤ IntKind.i64.wrap ((0 : Int) - (pl s).fst.toInt))) (Tree.ret (AV.t [Part.one (Cell.v (Value.int IntKind.i64 (IntKind.i64.wrap ((0 : Int) - (pl s).fst.toInt)))), Part.one (Cell.v (Value.bool (decide (IntKind.i64.wrap ((0 : Int) - (pl s).fst.toInt) ≤ hi))))], [])) (Tree.ret (AV.t [Part.one (Cell.v (Value.int IntKind.i64 (IntKind.i64.wrap ((0 : Int) - (pl s).fst.toInt)))), Part.one (Cell.v (Value.bool false))], []))) (Tree.ite (decide (lo ≤ (pl s).fst.toInt)) (Tree.ret (AV.t [Part.one (Cell.v (Value.int IntKind.i64 (pl s).fst.toInt)), Part.one (Cell.v (Value.bool (decide ((pl s).fst.toInt ≤ hi))))], [])) (Tree.ret (AV.t [Part.one (Cell.v (Value.int IntKind.i64 (pl s).fst.toInt)), Part.one (Cell.v (Value.bool false))], []))))) (Tree.ret (AV.t [Part.one (Cell.v (Value.int IntKind.i64 (0 : Int))), Part.one (Cell.v (Value.bool false))], []))) (Tree.ret (AV.t [Part.one (Cell.v (Value.int IntKind.i64 (0 : Int))), Part.one (Cell.v (Value.bool false))], []))) Tree.fail)) Tree.fail) (Tree.ite (decC (s.size ≤ (65536 : Nat))) (Tree.ite (!!(pl s).snd) (Tree.ite (!(BitVec.ofInt (64 : Nat) (4611686018427387904 : Int)).ult (pl s).fst) (Tree.ite (decide (lo ≤ (pl s).fst.toInt)) (Tree.ret (AV.t [Part.one (Cell.v (Value.int IntKind.i64 (pl s).fst.toInt)), Part.one (Cell.v (Value.bool (decide ((pl s).fst.toInt ≤ hi))))], [])) (Tree.ret (AV.t [Part.one (Cell.v (Value.int IntKind.i64 (pl s).fst.toInt)), Part.one (Cell.v (Value.bool false))], []))) (Tree.ret (AV.t [Part.one (Cell.v (Value.int IntKind.i64 (0 : Int))), Part.one (Cell.v (Value.bool false))], []))) (Tree.ret (AV.t [Part.one (Cell.v (Value.int IntKind.i64 (0 : Int))), Part.one (Cell.v (Value.bool false))], []))) Tree.fail)
noncomputable def F_number : denAs [.c .s, .c (.i .i64), .c (.i .i64)] → denObs [] → Tree (AV × List Ob) := fun x y => match x, y with
  | (s, lo, hi, ()), () => ckP (∃ k : Int, s = B (nb k) ∧ -4611686018427387904 ≤ k ∧ k ≤ 4611686018427387904 ∧ lo ≤ k ∧ k ≤ hi) (.ret (.t [.one (.v (.int .i64 (rdI s))), .one (.v (.bool true))], []))
theorem ev_number : ∀ a, (evalFnL Tryz.prog (lk L_plain) 20 noL Tryz.f279 (Tryz.f279.body.getD .skip) [] (encAs [.c .s, .c (.i .i64), .c (.i .i64)] (ea_number a)) (encOs [] (eo_number a))).run = (E_number a).run := by
  rintro ⟨s, lo, hi⟩
  kernel_rfl
theorem fe_number : ∀ a y, (F_number (ea_number a) (eo_number a)).run = some y → (E_number a).run = some y := by
  rintro ⟨s, lo, hi⟩ y h
  obtain ⟨⟨k, hs, h1, h2, h3, h4⟩, h⟩ := ckP_run h
  rw [← h]
  dsimp only [E_number]
  have hI : rdI s = k := by rw [hs, rdI_nb]
  have d62 : (BitVec.ofInt 64 4611686018427387904).toNat = 4611686018427387904 := by rfl
  by_cases hn : k < 0
  · have hs2 : s = B (45 :: dg (-k).toNat) := by rw [hs]; unfold nb; rw [if_pos hn]
    have hsz : s.size = (dg (-k).toNat).length + 1 := by rw [hs2, B_size]; rfl
    have hlen : (dg (-k).toNat).length ≤ 20 := dg_len 19 _ (by omega)
    have hb : (byteAt s 0 == BitVec.ofInt 8 45) = true := by rw [hs2, byteAt_B]; rfl
    have he : s.extract 1 s.size = B (dg (-k).toNat) := by
      rw [hsz, hs2, B_extract]
      congr 1
      simp
    have hp : pl (s.extract 1 s.size) = (BitVec.ofNat 64 (-k).toNat, true) := by rw [he]; exact pl_dg (by omega)
    have ht : (BitVec.ofNat 64 (-k).toNat).toNat = (-k).toNat := by rw [BitVec.toNat_ofNat]; omega
    have hti : (BitVec.ofNat 64 (-k).toNat).toInt = -k := by rw [BitVec.toInt_eq_toNat_of_lt (by rw [ht]; omega), ht]; omega
    have hw : IntKind.i64.wrap ((0 : Int) - (BitVec.ofNat 64 (-k).toNat).toInt) = k := by rw [hti]; exact (wrap64 (n := 0 - -k) (by omega) (by omega)).trans (by omega)
    rw [goTd (show (0 : Int) < s.size by omega), goT (by rw [Bool.true_and]; exact decide_eq_true (by omega)), goT hb, goT (by rw [Bool.true_and]; exact decide_eq_true (by omega))]
    refine (ckP_true (show (s.extract 1 s.size).size ≤ 65536 by rw [he, B_size]; omega) _).trans ?_
    rw [hp, goT (show (!!(true : Bool)) = true from rfl), goTN (by simp only [BitVec.ult]; rw [ht, d62]; exact decide_eq_false (by omega)), goT hb, goF (by
      rw [beq_eq_false_iff_ne]
      intro hc
      have := congrArg BitVec.toNat hc
      rw [ht] at this
      have : (-k).toNat = 0 := this
      omega), goT hb, hw, goTd h3]
    rw [hI, decide_eq_true h4]
    try rfl
  · have hs2 : s = B (dg k.toNat) := by rw [hs]; unfold nb; rw [if_neg hn]
    obtain ⟨c, l, hd, c1, c2⟩ := dg_cons k.toNat
    have hsz : s.size = l.length + 1 := by rw [hs2, B_size, hd]; rfl
    have hlen : (dg k.toNat).length ≤ 20 := dg_len 19 _ (by omega)
    have hlen2 : l.length + 1 ≤ 20 := by rw [hd] at hlen; exact hlen
    have hb : (byteAt s 0 == BitVec.ofInt 8 45) = false := by
      rw [hs2, hd, byteAt_B, beq_eq_false_iff_ne]
      intro hc
      have : c.toNat = 45 := congrArg BitVec.toNat hc
      omega
    have hp : pl s = (BitVec.ofNat 64 k.toNat, true) := by rw [hs2]; exact pl_dg (by omega)
    have ht : (BitVec.ofNat 64 k.toNat).toNat = k.toNat := by rw [BitVec.toNat_ofNat]; omega
    have hti : (BitVec.ofNat 64 k.toNat).toInt = k := by rw [BitVec.toInt_eq_toNat_of_lt (by rw [ht]; omega), ht]; omega
    rw [goTd (show (0 : Int) < s.size by omega), goT (by rw [Bool.true_and]; exact decide_eq_true (by omega)), goF hb]
    refine (ckP_true (show s.size ≤ 65536 by omega) _).trans ?_
    rw [hp, goT (show (!!(true : Bool)) = true from rfl), goTN (by simp only [BitVec.ult]; rw [ht, d62]; exact decide_eq_false (by omega)), goF hb, goF hb, hti, goTd h3]
    rw [hI, decide_eq_true h4]
    try rfl
theorem ok_number : SummOk Kn Tryz.prog 279 (sumT [.any, .any, .any] false [.c .s, .c (.i .i64), .c (.i .i64)] [] F_number) := sumT_view tok_plain Tryz.checked.mixed Tryz.func279 (by kernel_rfl) (by rfl) 20 [] ea_number eo_number
  (by rintro ⟨s, lo, hi, ⟨⟩⟩ ⟨⟩; exact ⟨(s, lo, hi), rfl, rfl⟩) noL 0 (by rintro ⟨⟩; rfl) (noL_ok _ _ _ _ _ _) E_number ev_number fe_number
noncomputable def L_number : List (Nat × Summ) := (279, (sumT [.any, .any, .any] false [.c .s, .c (.i .i64), .c (.i .i64)] [] F_number)) :: L_plain
theorem tok_number : TOk Kn Tryz.prog (lk L_number) := lk_cons ok_number tok_plain
def ea_imm : ByteArray → denAs [.c .s] := fun s => (s, ())
def eo_imm : ByteArray → denObs [] := fun s => ()
noncomputable def E_imm : ByteArray → Tree (AV × List Ob) := fun s => 
Tree.ite (decC (∃ k, (s, ()).fst = B (nb k) ∧ (-4611686018427387904 : Int) ≤ k ∧ k ≤ (4611686018427387904 : Int) ∧ (-2147483648 : Int) ≤ k ∧ k ≤ (2147483647 : Int))) (Tree.ret (AV.t [Part.one (Cell.v (Value.int IntKind.i32 (IntKind.i32.wrap (rdI s)))), Part.one (Cell.v (Value.bool true))], [])) Tree.fail
noncomputable def F_imm : denAs [.c .s] → denObs [] → Tree (AV × List Ob) := fun x y => match x, y with
  | (s, ()), () => ckP (∃ k : Int, s = B (nb k) ∧ -2147483648 ≤ k ∧ k ≤ 2147483647) (.ret (.t [.one (.v (.int .i32 (rdI s))), .one (.v (.bool true))], []))
theorem ev_imm : ∀ a, (evalFnL Tryz.prog (lk L_number) 20 noL Tryz.f198 (Tryz.f198.body.getD .skip) [] (encAs [.c .s] (ea_imm a)) (encOs [] (eo_imm a))).run = (E_imm a).run := by
  rintro s
  kernel_rfl
theorem fe_imm : ∀ a y, (F_imm (ea_imm a) (eo_imm a)).run = some y → (E_imm a).run = some y := by
  intro s y h
  obtain ⟨⟨k, hs, h1, h2⟩, h⟩ := ckP_run h
  rw [← h]
  dsimp only [E_imm]
  have hI : rdI s = k := by rw [hs, rdI_nb]
  refine (ckP_true ⟨k, hs, by omega, by omega, h1, h2⟩ _).trans ?_
  have hw : IntKind.i32.wrap (rdI s) = rdI s := by
    rw [hI]
    unfold IntKind.wrap
    simp only [IntKind.signed, IntKind.bits, Bool.true_and]
    split
    · rename_i hc; simp at hc; omega
    · rename_i hc; simp at hc; omega
  rw [hw]
  try rfl
theorem ok_imm : SummOk Kn Tryz.prog 198 (sumT [.any] false [.c .s] [] F_imm) := sumT_view tok_number Tryz.checked.mixed Tryz.func198 (by kernel_rfl) (by rfl) 20 [] ea_imm eo_imm
  (by rintro ⟨s, ⟨⟩⟩ ⟨⟩; exact ⟨s, rfl, rfl⟩) noL 0 (by rintro ⟨⟩; rfl) (noL_ok _ _ _ _ _ _) E_imm ev_imm fe_imm
noncomputable def L_imm : List (Nat × Summ) := (198, (sumT [.any] false [.c .s] [] F_imm)) :: L_number
theorem tok_imm : TOk Kn Tryz.prog (lk L_imm) := lk_cons ok_imm tok_number
def ea_reg : ByteArray × (BitVec 8) → denAs [.c .s, .c (.w .u8)] := fun ⟨s, c⟩ => (s, c, ())
def eo_reg : ByteArray × (BitVec 8) → denObs [] := fun ⟨s, c⟩ => ()
noncomputable def E_reg : ByteArray × (BitVec 8) → Tree (AV × List Ob) := fun ⟨s, c⟩ => 
Tree.ite (!decide ((↑s.size : Int) < (2 : Int))) (Tree.ite (true && decide ((0 : Int) < (↑s.size : Int))) (Tree.ite (byteAt s (0 : Nat) != c) (Tree.ret (AV.t [Part.one (Cell.w IntKind.u8 (BitVec.ofInt (8 : Nat) (0 : Int))), Part.one (Cell.v (Value.bool false))], [])) (Tree.ite (true && decide ((1 : Int) ≤ (↑s.size : Int))) (Tree.ite (decC ((s.extract (1 : Nat) s.size).size ≤ (65536 : Nat))) (Tree.ite (pl (s.extract (1 : Nat) s.size)).snd (Tree.ret (AV.t [Part.one (Cell.w IntKind.u8 (BitVec.setWidth (8 : Nat) (pl (s.extract (1 : Nat) s.size)).fst)), Part.one (Cell.v (Value.bool ((pl (s.extract (1 : Nat) s.size)).fst.ule (BitVec.ofInt (64 : Nat) (10 : Int)))))], [])) (Tree.ret (AV.t [Part.one (Cell.w IntKind.u8 (BitVec.setWidth (8 : Nat) (pl (s.extract (1 : Nat) s.size)).fst)), Part.one (Cell.v (Value.bool false))], []))) Tree.fail) Tree.fail)) Tree.fail) (Tree.ret (AV.t [Part.one (Cell.w IntKind.u8 (BitVec.ofInt (8 : Nat) (0 : Int))), Part.one (Cell.v (Value.bool false))], []))
noncomputable def F_reg : denAs [.c .s, .c (.w .u8)] → denObs [] → Tree (AV × List Ob) := fun x y => match x, y with
  | (s, c, ()), () => ckP (∃ k : Int, s = B (nb k) ∧ 57 < c.toNat) (.ret (.t [.one (.w .u8 (BitVec.ofInt 8 0)), .one (.v (.bool false))], []))
theorem ev_reg : ∀ a, (evalFnL Tryz.prog (lk L_imm) 20 noL Tryz.f201 (Tryz.f201.body.getD .skip) [] (encAs [.c .s, .c (.w .u8)] (ea_reg a)) (encOs [] (eo_reg a))).run = (E_reg a).run := by
  rintro ⟨s, c⟩
  kernel_rfl
theorem fe_reg : ∀ a y, (F_reg (ea_reg a) (eo_reg a)).run = some y → (E_reg a).run = some y := by
  rintro ⟨s, c⟩ y h
  obtain ⟨⟨k, hs, h1⟩, h⟩ := ckP_run h
  rw [← h]
  dsimp only [E_reg]
  have h1 : 57 < BitVec.toNat (w := 8) c := h1
  by_cases h2 : (s.size : Int) < 2
  · rw [goFn h2]
    try rfl
  rw [goTn h2, goT (by rw [Bool.true_and]; exact decide_eq_true (by omega))]
  have hne : (byteAt s 0 != c) = true := by
    rw [bne_iff_ne]
    intro hc
    rw [hs, byteAt_B, List.getD_eq_getElem?_getD] at hc
    have hl : 0 < (nb k).length := by
      have : s.size = (nb k).length := by rw [hs, B_size]
      omega
    rw [List.getElem?_eq_getElem hl] at hc
    have hm : (nb k)[0] ∈ nb k := List.getElem_mem hl
    have ht : ((nb k)[0]).toNat = BitVec.toNat (w := 8) c := congrArg (BitVec.toNat (w := 8)) hc
    rcases nb_all k _ hm with h45 | h57
    · rw [h45] at ht
      have : (45 : UInt8).toNat = 45 := by rfl
      omega
    · omega
  rw [goT hne]
  try rfl
theorem ok_reg : SummOk Kn Tryz.prog 201 (sumT [.any, .any] false [.c .s, .c (.w .u8)] [] F_reg) := sumT_view tok_imm Tryz.checked.mixed Tryz.func201 (by kernel_rfl) (by rfl) 20 [] ea_reg eo_reg
  (by rintro ⟨s, c, ⟨⟩⟩ ⟨⟩; exact ⟨(s, c), rfl, rfl⟩) noL 0 (by rintro ⟨⟩; rfl) (noL_ok _ _ _ _ _ _) E_reg ev_reg fe_reg
noncomputable def L_reg : List (Nat × Summ) := (201, (sumT [.any, .any] false [.c .s, .c (.w .u8)] [] F_reg)) :: L_imm
theorem tok_reg : TOk Kn Tryz.prog (lk L_reg) := lk_cons ok_reg tok_imm
end Go.Proofs.YtfbldjaepenfpaaGreatDoor.Fp
