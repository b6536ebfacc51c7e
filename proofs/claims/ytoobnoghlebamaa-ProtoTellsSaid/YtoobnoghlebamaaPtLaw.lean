/-
  The law of the helpers by number, by name, in the list of all.
-/
import Derived.Test.YtoobnoghlebamaaPtK
namespace Go.Proofs.Ytoobnoghlebamaa.tl
open Go Go.Sy Go.Sz Go.Pr
set_option linter.unusedVariables false
set_option linter.unusedSimpArgs false
set_option maxRecDepth 100000

noncomputable abbrev cd : Code := Try.f4.body.getD .skip
def way : List Bool := [true, false, true, true, true, true, true, false, true, true, true, true, true, false]
theorem ev_rest (x : Int) (s : ByteArray) : Tree.atr way (evalFnL Try.prog (lk L_all) 40 noL Try.f4 cd [] [.p (.one (.v (.int .i64 x))), .p (.one (.v (.string s)))] []) = some (AV.b true, []) := by kernel_rfl

def eqRow (r : PRow) : Bool := r.1 == r.1 && ((r.2.1 == r.2.1 && (r.2.2.1 == r.2.2.1 && (r.2.2.2.1 == r.2.2.2.1 && (r.2.2.2.2.1 == r.2.2.2.2.1 && (r.2.2.2.2.2.1 == r.2.2.2.2.2.1 && true))))) &&
  (r.2.2.2.2.2.2.1 == r.2.2.2.2.2.2.1 && (r.2.2.2.2.2.2.2.1 == r.2.2.2.2.2.2.2.1 && (r.2.2.2.2.2.2.2.2.1 == r.2.2.2.2.2.2.2.2.1 && (r.2.2.2.2.2.2.2.2.2.1 == r.2.2.2.2.2.2.2.2.2.1 && true)))))
theorem eqRow_true (r : PRow) : eqRow r = true := by
  have h : (r.1 == r.1) = true := (Go.MapKept.bytes_beq _ _).2 rfl
  unfold eqRow
  rw [h]
  simp
theorem ev_conds (x : Int) (s : ByteArray) : Tree.cds way (evalFnL Try.prog (lk L_all) 40 noL Try.f4 cd [] [.p (.one (.v (.int .i64 x))), .p (.one (.v (.string s)))] []) =
    [true, false, true, true, !(!(eqRow (Pr.rowAt x))), true, true, !(errAt x == errAt x), true, true, !(findN s != findN s), true, true, !(findE s == findE s)] := by kernel_rfl
theorem ev (x : Int) (s : ByteArray) : (evalFnL Try.prog (lk L_all) 40 noL Try.f4 cd [] [.p (.one (.v (.int .i64 x))), .p (.one (.v (.string s)))] []).run = some (AV.b true, []) :=
  Tree.run_atr (ev_rest x s) (by rw [ev_conds, eqRow_true]; simp [way])

theorem lifted (os : Os) (started : os.Started) : ∀ {H : Type} (enc : TypeId × Value → H), ReturnsInHanded {} Try.checked os 4 .any (Rows.protoTellsSpec.pre6 enc Try.prog Try.f4 [] false) (Rows.protoTellsSpec.post enc Try.prog Try.f4 false true false false) := by
  intro H enc
  refine law_lifted (by kernel_rfl) (by kernel_rfl) started (by kernel_rfl) Try.func4 rfl ?_ rfl (by kernel_rfl) ?_
    (ChangeSpec.witness6 (enc := enc) (C := Try.checked) false ⟨#[], #[.int .i64 0, .string ⟨#[]⟩], []⟩ 8 (by kernel_rfl) (by kernel_rfl) (by kernel_rfl) (by kernel_rfl)) ?_
  · exact of_decide_eq_true (by kernel_rfl)
  · intro ds hds
    match ds, hds with
    | [d1, d2], _ => rfl
  · intro W base args ds before hval htrod
    refine law_data (K := Kn) tok_all Try.checked.mixed Try.func4 (by rfl) 40 4 (rc := []) (sh := [.one (.i .i64), .one .str]) (by kernel_rfl) ?_ W trivial base args ds before hval htrod
    rintro ⟨(x : Int), (s : ByteArray), _⟩ _
    exact ⟨noL, noL_ok _ _ _ _ _ _, ev x s⟩

theorem over : Rows.protoTellsRow.holds Try.pinned (OpenSpec.ofChange Rows.protoTellsSpec) :=
  OpenClaim.holds_of_wide 4 Try.f4 rfl rfl rfl rfl rfl rfl rfl ⟨rfl, rfl, rfl, rfl, rfl⟩ rfl rfl rfl rfl rfl (by kernel_rfl) Try.func4 (by kernel_rfl)
    (of_decide_eq_true (by kernel_rfl)) (by unfold Func.isWrapper; first | (rw [if_pos (by decide +kernel)]; kernel_rfl) | (rw [if_neg (by decide +kernel)]; exact ⟨rfl, rfl⟩))
    (fun os started H enc _ => lifted os started enc)
theorem holds : Rows.ProtoTellsSaid := over
end Go.Proofs.Ytoobnoghlebamaa.tl
