/-
  No cell of these rows narrows 'for every input' (looked for: loops, veiled, ifaces, maps, wideKeys, modest, calm, conditions, laid).
  DERIVED. THE GIVEN ROWS OF THIS SEAT. 5 by the template 'for every input the law returns true; each argument reads behind the call as it read before'; 0 by the template 'total and deterministic' (their statements: YtfgifilpcdhdbaaTotals.lean).
  GIVEN WITH THE SEED: the statements are not yours to turn. If you find one false, say at which input.
  Laid BY PROGRAM, IN A SANDBOX (cutbox-rows.mjs): the forced cells as the released guide's own fill.sh prints them over the translation 1484d7a0d3c05ca5… (all of the seat's roots in one cut). By AI agents, Wed Nov 11 2026. No macro, syntax, notation, axiom, sorry.
-/
import Derived.Test.YtfgifilpcdhdbaaChecked
import GoSem.Claim
import GoSem.ClaimJoined
import GoSem.ClaimMapViews
import Derived.JoinedTies
import Derived.KernelRfl
namespace Go.Proofs.Ytfgifilpcdhdbaa
/- THE CELL 'sum', in the pinned program and in every row, IS THE sha256 OF THE DUMP (.gsa) THAT YtfgifilpcdhdbaaProg.lean LOADS. Nothing in Lean hashes anything: it is a label: what it is worth is what the hold of that sum in a sandbox is worth. -/
noncomputable def Try.pinned : Pinned := { name := "ytfgifilpcdhdbaa", sum := "1484d7a0d3c05ca59105afbc4c56cb2b3e92319dd2442c1fe837f55d109ca23a", checked := Try.checked }
namespace Rows
def none {H : Type} : Left H := { results := [], args := [] }

/-- 'barbicanlaw6.TnumRanges': WHATEVER THE INPUT: true; the input reads as it did. -/
def tnumRangesSpec : ChangeSpec := { name := "tnumRanges", fn := fun _ => fun
  | [d1, d2] => { results := [.lit (.bool true)], args := [d1, d2] }
  | _ => none }
def tnumRangesRow : OpenClaim := { program := "ytfgifilpcdhdbaa", sum := "1484d7a0d3c05ca59105afbc4c56cb2b3e92319dd2442c1fe837f55d109ca23a", func := "barbican/barbicanlaw6.TnumRanges", spec := "tnumRanges", apart := false }
def TnumRangesSaid : Prop := tnumRangesRow.holds Try.pinned (OpenSpec.ofChange tnumRangesSpec)

/-- ITS FALSE NEIGHBOUR: 'it returns false'. Refute it at one input. -/
def tnumRangesWrong : ChangeSpec := { name := "tnumRanges", fn := fun _ => fun
  | [d1, d2] => { results := [.lit (.bool false)], args := [d1, d2] }
  | _ => none }
def TnumRangesWrongFalsely : Prop := tnumRangesRow.holds Try.pinned (OpenSpec.ofChange tnumRangesWrong)

/-- 'barbicanlaw6.TnumLattice': WHATEVER THE INPUT: true; the input reads as it did. -/
def tnumLatticeSpec : ChangeSpec := { name := "tnumLattice", fn := fun _ => fun
  | [d1, d2] => { results := [.lit (.bool true)], args := [d1, d2] }
  | _ => none }
def tnumLatticeRow : OpenClaim := { program := "ytfgifilpcdhdbaa", sum := "1484d7a0d3c05ca59105afbc4c56cb2b3e92319dd2442c1fe837f55d109ca23a", func := "barbican/barbicanlaw6.TnumLattice", spec := "tnumLattice", apart := false }
def TnumLatticeSaid : Prop := tnumLatticeRow.holds Try.pinned (OpenSpec.ofChange tnumLatticeSpec)

/-- ITS FALSE NEIGHBOUR: 'it returns false'. Refute it at one input. -/
def tnumLatticeWrong : ChangeSpec := { name := "tnumLattice", fn := fun _ => fun
  | [d1, d2] => { results := [.lit (.bool false)], args := [d1, d2] }
  | _ => none }
def TnumLatticeWrongFalsely : Prop := tnumLatticeRow.holds Try.pinned (OpenSpec.ofChange tnumLatticeWrong)

/-- 'barbicanlaw6.TnumTight': WHATEVER THE INPUT: true; the input reads as it did. -/
def tnumTightSpec : ChangeSpec := { name := "tnumTight", fn := fun _ => fun
  | [d1, d2, d3, d4, d5] => { results := [.lit (.bool true)], args := [d1, d2, d3, d4, d5] }
  | _ => none }
def tnumTightRow : OpenClaim := { program := "ytfgifilpcdhdbaa", sum := "1484d7a0d3c05ca59105afbc4c56cb2b3e92319dd2442c1fe837f55d109ca23a", func := "barbican/barbicanlaw6.TnumTight", spec := "tnumTight", unfollowed := true, recurses := true, apart := false }
def TnumTightSaid : Prop := tnumTightRow.holds Try.pinned (OpenSpec.ofChange tnumTightSpec)

/-- ITS FALSE NEIGHBOUR: 'it returns false'. Refute it at one input. -/
def tnumTightWrong : ChangeSpec := { name := "tnumTight", fn := fun _ => fun
  | [d1, d2, d3, d4, d5] => { results := [.lit (.bool false)], args := [d1, d2, d3, d4, d5] }
  | _ => none }
def TnumTightWrongFalsely : Prop := tnumTightRow.holds Try.pinned (OpenSpec.ofChange tnumTightWrong)

/-- 'barbicanlaw6.TnumRises': WHATEVER THE INPUT: true; the input reads as it did. -/
def tnumRisesSpec : ChangeSpec := { name := "tnumRises", fn := fun _ => fun
  | [d1, d2, d3, d4] => { results := [.lit (.bool true)], args := [d1, d2, d3, d4] }
  | _ => none }
def tnumRisesRow : OpenClaim := { program := "ytfgifilpcdhdbaa", sum := "1484d7a0d3c05ca59105afbc4c56cb2b3e92319dd2442c1fe837f55d109ca23a", func := "barbican/barbicanlaw6.TnumRises", spec := "tnumRises", unfollowed := true, recurses := true, apart := false }
def TnumRisesSaid : Prop := tnumRisesRow.holds Try.pinned (OpenSpec.ofChange tnumRisesSpec)

/-- ITS FALSE NEIGHBOUR: 'it returns false'. Refute it at one input. -/
def tnumRisesWrong : ChangeSpec := { name := "tnumRises", fn := fun _ => fun
  | [d1, d2, d3, d4] => { results := [.lit (.bool false)], args := [d1, d2, d3, d4] }
  | _ => none }
def TnumRisesWrongFalsely : Prop := tnumRisesRow.holds Try.pinned (OpenSpec.ofChange tnumRisesWrong)

/-- 'barbicanlaw6.TnumExact': WHATEVER THE INPUT: true; the input reads as it did. -/
def tnumExactSpec : ChangeSpec := { name := "tnumExact", fn := fun _ => fun
  | [d1, d2, d3, d4, d5, d6] => { results := [.lit (.bool true)], args := [d1, d2, d3, d4, d5, d6] }
  | _ => none }
def tnumExactRow : OpenClaim := { program := "ytfgifilpcdhdbaa", sum := "1484d7a0d3c05ca59105afbc4c56cb2b3e92319dd2442c1fe837f55d109ca23a", func := "barbican/barbicanlaw6.TnumExact", spec := "tnumExact", unfollowed := true, recurses := true, apart := false }
def TnumExactSaid : Prop := tnumExactRow.holds Try.pinned (OpenSpec.ofChange tnumExactSpec)

/-- ITS FALSE NEIGHBOUR: 'it returns false'. Refute it at one input. -/
def tnumExactWrong : ChangeSpec := { name := "tnumExact", fn := fun _ => fun
  | [d1, d2, d3, d4, d5, d6] => { results := [.lit (.bool false)], args := [d1, d2, d3, d4, d5, d6] }
  | _ => none }
def TnumExactWrongFalsely : Prop := tnumExactRow.holds Try.pinned (OpenSpec.ofChange tnumExactWrong)

/- THE SECOND FORM. 'bulk': how many values and letters a reading holds, each counted each time it is reached (what is shared counts as often as it is met; a slice's spare places count too). A statement '..UptoSaid' is the law's where the arguments, and the package variables that the reading takes, are together of bulk at most 1048576: NARROWER than '..Said'. Prove '..Said' where nothing that the law and all that it calls make is longer than what came in: it says more and counts as full. Else prove '..UptoSaid'. A law counts once. -/
mutual
def uptoBulk {H : Type} : DataW H → Nat
  | .lit (.string bytes) => bytes.length + 1
  | .lit _ => 1
  | .nil => 1
  | .ptr d => uptoBulk d + 1
  | .slice elems spare => uptoBulkAll elems + uptoBulkAll spare + 1
  | .agg parts => uptoBulkAll parts + 1
  | .iface _ d => uptoBulk d + 1
  | .map entries => uptoBulkEntries entries + 1
  | .held _ => 1
def uptoBulkAll {H : Type} : List (DataW H) → Nat
  | [] => 0
  | d :: r => uptoBulk d + uptoBulkAll r
def uptoBulkEntries {H : Type} : List (Lit × DataW H) → Nat
  | [] => 0
  | x :: r => uptoBulkEntry x + uptoBulkEntries r
def uptoBulkEntry {H : Type} : Lit × DataW H → Nat
  | (.string bytes, d) => bytes.length + uptoBulk d + 1
  | (_, d) => uptoBulk d + 1
 end
def uptoSmall : (H : Type) → List (DataW H) → Bool := fun _ ds => decide (uptoBulkAll ds ≤ 1048576)
def OpenSpec.upto (s : _root_.Go.ChangeSpec) : _root_.Go.OpenSpec := { _root_.Go.OpenSpec.ofChange s with cond := some uptoSmall }

/-- 'barbicanlaw6.TnumRanges', WHERE WHAT IT READS IS OF BULK AT MOST 1048576: true; the input reads as it did. -/
def tnumRangesUptoRow : OpenClaim := { program := "ytfgifilpcdhdbaa", sum := "1484d7a0d3c05ca59105afbc4c56cb2b3e92319dd2442c1fe837f55d109ca23a", func := "barbican/barbicanlaw6.TnumRanges", spec := "tnumRanges", apart := false, narrowed := true }
def TnumRangesUptoSaid : Prop := tnumRangesUptoRow.holds Try.pinned (OpenSpec.upto tnumRangesSpec)

/-- 'barbicanlaw6.TnumLattice', WHERE WHAT IT READS IS OF BULK AT MOST 1048576: true; the input reads as it did. -/
def tnumLatticeUptoRow : OpenClaim := { program := "ytfgifilpcdhdbaa", sum := "1484d7a0d3c05ca59105afbc4c56cb2b3e92319dd2442c1fe837f55d109ca23a", func := "barbican/barbicanlaw6.TnumLattice", spec := "tnumLattice", apart := false, narrowed := true }
def TnumLatticeUptoSaid : Prop := tnumLatticeUptoRow.holds Try.pinned (OpenSpec.upto tnumLatticeSpec)

/-- 'barbicanlaw6.TnumTight', WHERE WHAT IT READS IS OF BULK AT MOST 1048576: true; the input reads as it did. -/
def tnumTightUptoRow : OpenClaim := { program := "ytfgifilpcdhdbaa", sum := "1484d7a0d3c05ca59105afbc4c56cb2b3e92319dd2442c1fe837f55d109ca23a", func := "barbican/barbicanlaw6.TnumTight", spec := "tnumTight", unfollowed := true, recurses := true, apart := false, narrowed := true }
def TnumTightUptoSaid : Prop := tnumTightUptoRow.holds Try.pinned (OpenSpec.upto tnumTightSpec)

/-- 'barbicanlaw6.TnumRises', WHERE WHAT IT READS IS OF BULK AT MOST 1048576: true; the input reads as it did. -/
def tnumRisesUptoRow : OpenClaim := { program := "ytfgifilpcdhdbaa", sum := "1484d7a0d3c05ca59105afbc4c56cb2b3e92319dd2442c1fe837f55d109ca23a", func := "barbican/barbicanlaw6.TnumRises", spec := "tnumRises", unfollowed := true, recurses := true, apart := false, narrowed := true }
def TnumRisesUptoSaid : Prop := tnumRisesUptoRow.holds Try.pinned (OpenSpec.upto tnumRisesSpec)

/-- 'barbicanlaw6.TnumExact', WHERE WHAT IT READS IS OF BULK AT MOST 1048576: true; the input reads as it did. -/
def tnumExactUptoRow : OpenClaim := { program := "ytfgifilpcdhdbaa", sum := "1484d7a0d3c05ca59105afbc4c56cb2b3e92319dd2442c1fe837f55d109ca23a", func := "barbican/barbicanlaw6.TnumExact", spec := "tnumExact", unfollowed := true, recurses := true, apart := false, narrowed := true }
def TnumExactUptoSaid : Prop := tnumExactUptoRow.holds Try.pinned (OpenSpec.upto tnumExactSpec)

end Rows
end Go.Proofs.Ytfgifilpcdhdbaa
