/-
  The law of the helpers' shapes.
-/
import Derived.Test.YtoobnoghlebamaaPrK
namespace Go.Proofs.Ytoobnoghlebamaa.shp
open Go Go.Sy Go.Sz Go.Pr
set_option linter.unusedVariables false
set_option linter.unusedSimpArgs false
set_option maxRecDepth 100000

/-- The package's function at a number that is none's. -/
def outC : Summ := sumS [.any] false [iS] [] (fun x _ => !inR x.1) (fun _ _ => (.t [.many (tab.getD 0 []), .one (.v (.int .i64 130))], []))
theorem ok_out : SummOk Kn Try.prog 6 outC := sumS_ok tok_table Try.checked.mixed Try.func6 (by kernel_rfl) (by rfl) 20 [] (by
  rintro ⟨(x : Int), _⟩ _ hck
  refine ⟨noL, noL_ok _ _ _ _ _ _, ?_⟩
  have h : inR x = false := by simpa using hck
  have e : ofA x = .t [.many (tab.getD 0 []), .one (.v (.int .i64 130))] := by unfold ofA; rw [h]; rfl
  have := ev_Of0 x
  rw [e] at this
  exact this)
def L_out : List (Nat × Summ) := (6, outC) :: L_known
theorem tok_out : TOk Kn Try.prog (lk L_out) := lk_cons ok_out tok_known

noncomputable abbrev cd : Code := Try.f3.body.getD .skip
theorem ev_in (x : Int) (h : inR x = true) : (evalFnL Try.prog (lk L_known) 20 noL Try.f3 cd [] [.p (.one (.v (.int .i64 x)))] []).run = some (AV.b true, []) := by
  rcases in28 h with rfl | rfl | rfl | rfl | rfl | rfl | rfl | rfl | rfl | rfl | rfl | rfl | rfl | rfl | rfl | rfl | rfl | rfl | rfl | rfl | rfl | rfl | rfl | rfl | rfl | rfl | rfl | rfl <;> kernel_rfl

theorem ev_out (x : Int) (h : inR x = false) : (evalFnL Try.prog (lk L_out) 20 noL Try.f3 cd [] [.p (.one (.v (.int .i64 x)))] []).run = some (AV.b true, []) := by
  rcases out28 h with h1 | ⟨h1, h2⟩
  · have k : Tree.cds [true, false, true, false, false, true, true, true, true, true] (evalFnL Try.prog (lk L_out) 20 noL Try.f3 cd [] [.p (.one (.v (.int .i64 x)))] []) = [true, false, !inR x, !decide (x < 1), false, true, true, true, true, true] := by kernel_rfl
    exact Tree.run_at (l := [true, false, true, false, false, true, true, true, true, true]) (by kernel_rfl) (by rw [k, h, decide_eq_true h1]; rfl)
  · have k : Tree.cds [true, false, true, true, true, true, true, true, true] (evalFnL Try.prog (lk L_out) 20 noL Try.f3 cd [] [.p (.one (.v (.int .i64 x)))] []) = [true, false, !inR x, !decide (x < 1), true, decide (28 < x), true, true, true] := by kernel_rfl
    exact Tree.run_at (l := [true, false, true, true, true, true, true, true, true]) (by kernel_rfl) (by rw [k, h, decide_eq_false h1, decide_eq_true h2]; rfl)

theorem lifted (os : Os) (started : os.Started) : ∀ {H : Type} (enc : TypeId × Value → H), ReturnsInHanded {} Try.checked os 3 .any (Rows.protoShapeSpec.pre6 enc Try.prog Try.f3 [] false) (Rows.protoShapeSpec.post enc Try.prog Try.f3 false true false false) := by
  intro H enc
  refine law_lifted (by kernel_rfl) (by kernel_rfl) started (by kernel_rfl) Try.func3 rfl ?_ rfl (by kernel_rfl) ?_
    (ChangeSpec.witness6 (enc := enc) (C := Try.checked) false ⟨#[], #[.int .i64 0], []⟩ 8 (by kernel_rfl) (by kernel_rfl) (by kernel_rfl) (by kernel_rfl)) ?_
  · exact of_decide_eq_true (by kernel_rfl)
  · intro ds hds
    match ds, hds with
    | [d1], _ => rfl
  · intro W base args ds before hval htrod
    refine law_data2 (K := Kn) Try.checked.mixed Try.func3 (by rfl) 20 4 (rc := []) (sh := [.one (.i .i64)]) (by kernel_rfl) ?_ W trivial base args ds before hval htrod
    rintro ⟨(x : Int), _⟩ _
    cases h : inR x with
    | true => exact ⟨_, tok_known, noL, noL_ok _ _ _ _ _ _, ev_in x h⟩
    | false => exact ⟨_, tok_out, noL, noL_ok _ _ _ _ _ _, ev_out x h⟩

theorem over : Rows.protoShapeRow.holds Try.pinned (OpenSpec.ofChange Rows.protoShapeSpec) :=
  OpenClaim.holds_of_wide 3 Try.f3 rfl rfl rfl rfl rfl rfl rfl ⟨rfl, rfl, rfl, rfl, rfl⟩ rfl rfl rfl rfl rfl (by kernel_rfl) Try.func3 (by kernel_rfl)
    (of_decide_eq_true (by kernel_rfl)) (by unfold Func.isWrapper; first | (rw [if_pos (by decide +kernel)]; kernel_rfl) | (rw [if_neg (by decide +kernel)]; exact ⟨rfl, rfl⟩))
    (fun os started H enc _ => lifted os started enc)
theorem holds : Rows.ProtoShapeSaid := over
end Go.Proofs.Ytoobnoghlebamaa.shp
