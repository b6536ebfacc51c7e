/-
  The law FamWrite: its call, from every world that meets the row.
-/
import Derived.Test.YtfbldjaepenfpaaGreatDoorTie
import Derived.Test.YtfbldjaepenfpaaGreatDoorCards
import Derived.SevenTiedAt
import Derived.Lib.TrailingZeros
import Derived.Test.YtfbldjaepenfpaaGreatDoorFwJ
import Derived.Test.YtfbldjaepenfpaaGreatDoorFwL
namespace Go.Proofs.YtfbldjaepenfpaaGreatDoor.fw
open Go Go.Sy Go.Sz Go.Vy Go.Proofs.YtfbldjaepenfpaaGreatDoor
set_option linter.unusedVariables false
set_option linter.unusedSimpArgs false
set_option maxRecDepth 100000
noncomputable def laidWorld (os : Os) : World :=
  let w0 := World.holding Tryz.prog os ⟨#[], #[], []⟩
  { w0 with heap := w0.heap.modify 0 fun
      | .cells _ t frozen => .cells (Lib.deBruijn64tab.map fun n : Nat => Value.int .u8 (n : Int)).toArray t frozen
      | o => o }
theorem laidWorld_met (os : Os) (args : Array Value) : laidMetH Tryz.prog [("math/bits.deBruijn64tab", Rows.laid_math_bits_deBruijn64tab)] ((laidWorld os).forCall (fun _ _ => 0) ⟨#[], args, []⟩).memory :=
  laidMetH_of_parts (laidMet_of_run' 8 (by as_aux_lemma => kernel_rfl) (by as_aux_lemma => kernel_rfl)) (by as_aux_lemma => kernel_rfl)
theorem readA : ∀ t ∈ Tryz.f6.params.toList, Tryz.checked.prog.readableRec t = true ∧ t < Tryz.checked.prog.types.size := of_decide_eq_true (by as_aux_lemma => kernel_rfl)
theorem wit (os : Os) {H : Type} (enc : TypeId × Value → H) : ∃ (w : World) (tape : Tape) (i : Input), w.os = os ∧ (w.forCall tape i).Shaped Tryz.checked.prog ∧ i.vars = [] ∧ Input.okWide Tryz.checked.prog (w.forCall tape i) .any w.heap.size 6 i ∧
    ((Rows.famWriteSpec.pre enc Tryz.checked.prog Tryz.f6 [] false (w.forCall tape i).memory i.args ∧ laidMetH Tryz.checked.prog [("math/bits.deBruijn64tab", Rows.laid_math_bits_deBruijn64tab)] (w.forCall tape i).memory) ∧ sizedMet enc Tryz.checked.prog Tryz.f6 (OpenSpec.ofChange Rows.famWriteSpec) false (w.forCall tape i).memory i.args) ∧ ({} : Assume).holds Tryz.checked.prog (lone (Frame.enter Tryz.checked.prog 6 i.args .normal) [] (w.forCall tape i)) :=
  ChangeSpec.witness_at (enc := enc) (C := Tryz.checked) (os := os) (X := fun w _ => laidMetH Tryz.prog [("math/bits.deBruijn64tab", Rows.laid_math_bits_deBruijn64tab)] w) false (laidWorld os) #[.int .i32 0, .int .i32 0, .int .i64 0, .int .u32 0] 8 rfl (by as_aux_lemma => kernel_rfl) (by as_aux_lemma => kernel_rfl) (by as_aux_lemma => kernel_rfl) (by as_aux_lemma => kernel_rfl) (by as_aux_lemma => kernel_rfl) (laidWorld_met os _)
theorem callA {H : Type} (enc : TypeId × Value → H) (W : World) (base : Nat) (args : Array Value) (ds : List (DataW H)) (before : List MemPlace)
    (hval : ∀ (j : Nat) t v, Tryz.f6.params[j]? = some t → args[j]? = some v → Value.okWide Tryz.checked.prog W .any base t v)
    (htrod : DataW.TrodAll enc Tryz.checked.prog W 0 (fun _ => true) true Tryz.f6.params.toList args.toList ds before) : Calls Tryz.checked.prog 6 args W fun e W' => e = .returned (.bool true) ∧ RowKit.Below W.heap.size W W' := by
  refine law_data3 (K := Kn) Tryz.checked.mixed Tryz.func6 body604 400 4 (rc := []) (sh := [.one (.i .i32), .one (.i .i32), .one (.i .i64), .one (.w .u32)]) (by as_aux_lemma => kernel_rfl) ?_ W trivial base args ds before hval htrod
  rintro ⟨a, k, w, d, ⟨⟩⟩ ⟨ha, hk, _, _, _⟩
  exact ev_law a k w d ha hk
theorem specA {H : Type} : ∀ ds : List (DataW H), ds.length = Tryz.f6.params.size → Rows.famWriteSpec.fn H ds = { results := [.lit (.bool true)], args := ds } := by
  intro ds hds
  match ds, hds with
  | [d0, d1, d2, d3], _ => rfl
theorem lifted (os : Os) (started : os.Started) : ∀ {H : Type} (enc : TypeId × Value → H), ReturnsInHanded {} Tryz.checked os 6 .any (fun w args => (Rows.famWriteSpec.pre enc Tryz.prog Tryz.f6 [] false w args ∧ laidMetH Tryz.prog [("math/bits.deBruijn64tab", Rows.laid_math_bits_deBruijn64tab)] w) ∧ sizedMet enc Tryz.prog Tryz.f6 (OpenSpec.ofChange Rows.famWriteSpec) false w args)
    (Rows.famWriteSpec.post enc Tryz.prog Tryz.f6 false true false false) := by
  intro H enc
  exact law_lifted_laid (KO := fun _ => True) (by as_aux_lemma => kernel_rfl) (by as_aux_lemma => kernel_rfl) started (by as_aux_lemma => kernel_rfl) Tryz.func6 rfl readA rfl (by as_aux_lemma => kernel_rfl) specA (fun _ _ => trivial) (wit os enc) (fun W _ => callA enc W)
end Go.Proofs.YtfbldjaepenfpaaGreatDoor.fw
