/-
  NARROWER THAN 'FOR EVERY INPUT', by the rows' own cells (each row's printed sentence says how): ScalarConst: laid · ScalarMakes: laid · ScalarClosed: laid · ScalarTight: laid · ScalarMasked: laid · ScalarJoins: laid · ScalarBranches: laid.
  DERIVED. THE GIVEN ROWS OF THIS SEAT. 7 by the template 'for every input the law returns true; each argument reads behind the call as it read before'; 0 by the template 'total and deterministic' (their statements: YtlllbgcfhfgaeaaDoorTotals.lean).
  GIVEN WITH THE SEED: the statements are not yours to turn. If you find one false, say at which input.
  Laid BY PROGRAM, IN A SANDBOX (cutbox-rows.mjs): the forced cells as the released guide's own fill.sh prints them over the translation 3dd60b307e42a0e0… (all of the seat's roots in one cut). By AI agents, Wed Nov 11 2026. No macro, syntax, notation, axiom, sorry.
-/
import Derived.Test.YtlllbgcfhfgaeaaDoorChecked
import GoSem.Claim
import GoSem.ClaimJoined
import GoSem.ClaimMapViews
import Derived.JoinedTies
import Derived.KernelRfl
namespace Go.Proofs.YtlllbgcfhfgaeaaDoor
/- THE CELL 'sum', in the pinned program and in every row, IS THE sha256 OF THE DUMP (.gsa) THAT YtlllbgcfhfgaeaaDoorProg.lean LOADS. Nothing in Lean hashes anything: it is a label: what it is worth is what the hold of that sum in a sandbox is worth. -/
noncomputable def Tryd.pinned : Pinned := { name := "ytlllbgcfhfgaeaadoor", sum := "3dd60b307e42a0e0905fe95c48416cc9bd9d9e90809fbc519ae12d6fde147b16", checked := Tryd.checked }
namespace Rows
def none {H : Type} : Left H := { results := [], args := [] }

/- WHAT THE LISTED PACKAGE-LEVEL VARIABLES READ AS WHEN THE CALL BEGINS. Each datum BY PROGRAM (the guide's laid-datum.mjs) off the statement by which the dump's own 'gosem.cut.vars' lays the variable. In a bare row this is a premise. The card (YtlllbgcfhfgaeaaDoorCards.lean) ties it to the program's text. -/
def laid_math_bits_deBruijn64tab {H : Type} : DataW H := .agg [.lit (.int .u8 0), .lit (.int .u8 1), .lit (.int .u8 56), .lit (.int .u8 2), .lit (.int .u8 57), .lit (.int .u8 49), .lit (.int .u8 28), .lit (.int .u8 3), .lit (.int .u8 61), .lit (.int .u8 58), .lit (.int .u8 42), .lit (.int .u8 50), .lit (.int .u8 38), .lit (.int .u8 29), .lit (.int .u8 17), .lit (.int .u8 4), .lit (.int .u8 62), .lit (.int .u8 47), .lit (.int .u8 59), .lit (.int .u8 36), .lit (.int .u8 45), .lit (.int .u8 43), .lit (.int .u8 51), .lit (.int .u8 22), .lit (.int .u8 53), .lit (.int .u8 39), .lit (.int .u8 33), .lit (.int .u8 30), .lit (.int .u8 24), .lit (.int .u8 18), .lit (.int .u8 12), .lit (.int .u8 5), .lit (.int .u8 63), .lit (.int .u8 55), .lit (.int .u8 48), .lit (.int .u8 27), .lit (.int .u8 60), .lit (.int .u8 41), .lit (.int .u8 37), .lit (.int .u8 16), .lit (.int .u8 46), .lit (.int .u8 35), .lit (.int .u8 44), .lit (.int .u8 21), .lit (.int .u8 52), .lit (.int .u8 32), .lit (.int .u8 23), .lit (.int .u8 11), .lit (.int .u8 54), .lit (.int .u8 26), .lit (.int .u8 40), .lit (.int .u8 15), .lit (.int .u8 34), .lit (.int .u8 20), .lit (.int .u8 31), .lit (.int .u8 10), .lit (.int .u8 25), .lit (.int .u8 14), .lit (.int .u8 19), .lit (.int .u8 9), .lit (.int .u8 13), .lit (.int .u8 8), .lit (.int .u8 7), .lit (.int .u8 6)]

/-- 'barbicanlaw7.ScalarConst': WHATEVER THE INPUT: true; the input reads as it did. -/
def scalarConstSpec : ChangeSpec := { name := "scalarConst", fn := fun _ => fun
  | [d1, d2, d3, d4, d5] => { results := [.lit (.bool true)], args := [d1, d2, d3, d4, d5] }
  | _ => none }
def scalarConstRow : OpenClaim := { program := "ytlllbgcfhfgaeaadoor", sum := "3dd60b307e42a0e0905fe95c48416cc9bd9d9e90809fbc519ae12d6fde147b16", func := "barbican/barbicanlaw7.ScalarConst", spec := "scalarConst", inPlace := ["math/bits.Add64"], unfollowed := true, recurses := true, named := ["math/bits.deBruijn64tab"], apart := false, laid := [("math/bits.deBruijn64tab", laid_math_bits_deBruijn64tab)] }
def ScalarConstSaid : Prop := scalarConstRow.holds Tryd.pinned (OpenSpec.ofChange scalarConstSpec)

/-- ITS FALSE NEIGHBOUR: 'it returns false'. Refute it at one input. -/
def scalarConstWrong : ChangeSpec := { name := "scalarConst", fn := fun _ => fun
  | [d1, d2, d3, d4, d5] => { results := [.lit (.bool false)], args := [d1, d2, d3, d4, d5] }
  | _ => none }
def ScalarConstWrongFalsely : Prop := scalarConstRow.holds Tryd.pinned (OpenSpec.ofChange scalarConstWrong)

/-- 'barbicanlaw7.ScalarMakes': WHATEVER THE INPUT: true; the input reads as it did. -/
def scalarMakesSpec : ChangeSpec := { name := "scalarMakes", fn := fun _ => fun
  | [d1, d2, d3, d4] => { results := [.lit (.bool true)], args := [d1, d2, d3, d4] }
  | _ => none }
def scalarMakesRow : OpenClaim := { program := "ytlllbgcfhfgaeaadoor", sum := "3dd60b307e42a0e0905fe95c48416cc9bd9d9e90809fbc519ae12d6fde147b16", func := "barbican/barbicanlaw7.ScalarMakes", spec := "scalarMakes", inPlace := ["math/bits.Add64"], unfollowed := true, recurses := true, named := ["math/bits.deBruijn64tab"], apart := false, laid := [("math/bits.deBruijn64tab", laid_math_bits_deBruijn64tab)] }
def ScalarMakesSaid : Prop := scalarMakesRow.holds Tryd.pinned (OpenSpec.ofChange scalarMakesSpec)

/-- ITS FALSE NEIGHBOUR: 'it returns false'. Refute it at one input. -/
def scalarMakesWrong : ChangeSpec := { name := "scalarMakes", fn := fun _ => fun
  | [d1, d2, d3, d4] => { results := [.lit (.bool false)], args := [d1, d2, d3, d4] }
  | _ => none }
def ScalarMakesWrongFalsely : Prop := scalarMakesRow.holds Tryd.pinned (OpenSpec.ofChange scalarMakesWrong)

/-- 'barbicanlaw7.ScalarClosed': WHATEVER THE INPUT: true; the input reads as it did. -/
def scalarClosedSpec : ChangeSpec := { name := "scalarClosed", fn := fun _ => fun
  | [d1, d2, d3] => { results := [.lit (.bool true)], args := [d1, d2, d3] }
  | _ => none }
def scalarClosedRow : OpenClaim := { program := "ytlllbgcfhfgaeaadoor", sum := "3dd60b307e42a0e0905fe95c48416cc9bd9d9e90809fbc519ae12d6fde147b16", func := "barbican/barbicanlaw7.ScalarClosed", spec := "scalarClosed", inPlace := ["math/bits.Add64"], unfollowed := true, recurses := true, named := ["math/bits.deBruijn64tab"], apart := false, laid := [("math/bits.deBruijn64tab", laid_math_bits_deBruijn64tab)] }
def ScalarClosedSaid : Prop := scalarClosedRow.holds Tryd.pinned (OpenSpec.ofChange scalarClosedSpec)

/-- ITS FALSE NEIGHBOUR: 'it returns false'. Refute it at one input. -/
def scalarClosedWrong : ChangeSpec := { name := "scalarClosed", fn := fun _ => fun
  | [d1, d2, d3] => { results := [.lit (.bool false)], args := [d1, d2, d3] }
  | _ => none }
def ScalarClosedWrongFalsely : Prop := scalarClosedRow.holds Tryd.pinned (OpenSpec.ofChange scalarClosedWrong)

/-- 'barbicanlaw7.ScalarTight': WHATEVER THE INPUT: true; the input reads as it did. -/
def scalarTightSpec : ChangeSpec := { name := "scalarTight", fn := fun _ => fun
  | [d1, d2, d3, d4] => { results := [.lit (.bool true)], args := [d1, d2, d3, d4] }
  | _ => none }
def scalarTightRow : OpenClaim := { program := "ytlllbgcfhfgaeaadoor", sum := "3dd60b307e42a0e0905fe95c48416cc9bd9d9e90809fbc519ae12d6fde147b16", func := "barbican/barbicanlaw7.ScalarTight", spec := "scalarTight", inPlace := ["math/bits.Add64"], unfollowed := true, recurses := true, named := ["math/bits.deBruijn64tab"], apart := false, laid := [("math/bits.deBruijn64tab", laid_math_bits_deBruijn64tab)] }
def ScalarTightSaid : Prop := scalarTightRow.holds Tryd.pinned (OpenSpec.ofChange scalarTightSpec)

/-- ITS FALSE NEIGHBOUR: 'it returns false'. Refute it at one input. -/
def scalarTightWrong : ChangeSpec := { name := "scalarTight", fn := fun _ => fun
  | [d1, d2, d3, d4] => { results := [.lit (.bool false)], args := [d1, d2, d3, d4] }
  | _ => none }
def ScalarTightWrongFalsely : Prop := scalarTightRow.holds Tryd.pinned (OpenSpec.ofChange scalarTightWrong)

/-- 'barbicanlaw7.ScalarMasked': WHATEVER THE INPUT: true; the input reads as it did. -/
def scalarMaskedSpec : ChangeSpec := { name := "scalarMasked", fn := fun _ => fun
  | [d1, d2, d3] => { results := [.lit (.bool true)], args := [d1, d2, d3] }
  | _ => none }
def scalarMaskedRow : OpenClaim := { program := "ytlllbgcfhfgaeaadoor", sum := "3dd60b307e42a0e0905fe95c48416cc9bd9d9e90809fbc519ae12d6fde147b16", func := "barbican/barbicanlaw7.ScalarMasked", spec := "scalarMasked", inPlace := ["math/bits.Add64"], unfollowed := true, recurses := true, named := ["math/bits.deBruijn64tab"], apart := false, laid := [("math/bits.deBruijn64tab", laid_math_bits_deBruijn64tab)] }
def ScalarMaskedSaid : Prop := scalarMaskedRow.holds Tryd.pinned (OpenSpec.ofChange scalarMaskedSpec)

/-- ITS FALSE NEIGHBOUR: 'it returns false'. Refute it at one input. -/
def scalarMaskedWrong : ChangeSpec := { name := "scalarMasked", fn := fun _ => fun
  | [d1, d2, d3] => { results := [.lit (.bool false)], args := [d1, d2, d3] }
  | _ => none }
def ScalarMaskedWrongFalsely : Prop := scalarMaskedRow.holds Tryd.pinned (OpenSpec.ofChange scalarMaskedWrong)

/-- 'barbicanlaw7.ScalarJoins': WHATEVER THE INPUT: true; the input reads as it did. -/
def scalarJoinsSpec : ChangeSpec := { name := "scalarJoins", fn := fun _ => fun
  | [d1, d2, d3] => { results := [.lit (.bool true)], args := [d1, d2, d3] }
  | _ => none }
def scalarJoinsRow : OpenClaim := { program := "ytlllbgcfhfgaeaadoor", sum := "3dd60b307e42a0e0905fe95c48416cc9bd9d9e90809fbc519ae12d6fde147b16", func := "barbican/barbicanlaw7.ScalarJoins", spec := "scalarJoins", inPlace := ["math/bits.Add64"], unfollowed := true, recurses := true, named := ["math/bits.deBruijn64tab"], apart := false, laid := [("math/bits.deBruijn64tab", laid_math_bits_deBruijn64tab)] }
def ScalarJoinsSaid : Prop := scalarJoinsRow.holds Tryd.pinned (OpenSpec.ofChange scalarJoinsSpec)

/-- ITS FALSE NEIGHBOUR: 'it returns false'. Refute it at one input. -/
def scalarJoinsWrong : ChangeSpec := { name := "scalarJoins", fn := fun _ => fun
  | [d1, d2, d3] => { results := [.lit (.bool false)], args := [d1, d2, d3] }
  | _ => none }
def ScalarJoinsWrongFalsely : Prop := scalarJoinsRow.holds Tryd.pinned (OpenSpec.ofChange scalarJoinsWrong)

/-- 'barbicanlaw7.ScalarBranches': WHATEVER THE INPUT: true; the input reads as it did. -/
def scalarBranchesSpec : ChangeSpec := { name := "scalarBranches", fn := fun _ => fun
  | [d1, d2, d3, d4, d5, d6, d7] => { results := [.lit (.bool true)], args := [d1, d2, d3, d4, d5, d6, d7] }
  | _ => none }
def scalarBranchesRow : OpenClaim := { program := "ytlllbgcfhfgaeaadoor", sum := "3dd60b307e42a0e0905fe95c48416cc9bd9d9e90809fbc519ae12d6fde147b16", func := "barbican/barbicanlaw7.ScalarBranches", spec := "scalarBranches", inPlace := ["math/bits.Add64"], unfollowed := true, recurses := true, named := ["math/bits.deBruijn64tab"], apart := false, laid := [("math/bits.deBruijn64tab", laid_math_bits_deBruijn64tab)] }
def ScalarBranchesSaid : Prop := scalarBranchesRow.holds Tryd.pinned (OpenSpec.ofChange scalarBranchesSpec)

/-- ITS FALSE NEIGHBOUR: 'it returns false'. Refute it at one input. -/
def scalarBranchesWrong : ChangeSpec := { name := "scalarBranches", fn := fun _ => fun
  | [d1, d2, d3, d4, d5, d6, d7] => { results := [.lit (.bool false)], args := [d1, d2, d3, d4, d5, d6, d7] }
  | _ => none }
def ScalarBranchesWrongFalsely : Prop := scalarBranchesRow.holds Tryd.pinned (OpenSpec.ofChange scalarBranchesWrong)

/- THE SECOND FORM. 'bulk': how many values and letters a reading holds, each counted each time it is reached (what is shared counts as often as it is met; a slice's spare places count too). A statement '..UptoSaid' is the law's where the arguments, and the package variables that the reading takes, are together of bulk at most 1048576: NARROWER than '..Said'. Prove '..Said' where nothing that the law and all that it calls make is longer than what came in: it says more and counts as full. Else prove '..UptoSaid'. A law counts once. -/
mutual
def uptoBulk {H : Type} : DataW H → Nat
  | .lit (.string bytes) => bytes.length + 1
  | .lit _ => 1
  | .nil => 1
  | .ptr d => uptoBulk d + 1
  | .slice elems spare => uptoBulkAll elems + uptoBulkAll spare + 1
  | .agg parts => uptoBulkAll parts + 1
  | .iface _ d => uptoBulk d + 1
  | .map entries => uptoBulkEntries entries + 1
  | .held _ => 1
def uptoBulkAll {H : Type} : List (DataW H) → Nat
  | [] => 0
  | d :: r => uptoBulk d + uptoBulkAll r
def uptoBulkEntries {H : Type} : List (Lit × DataW H) → Nat
  | [] => 0
  | x :: r => uptoBulkEntry x + uptoBulkEntries r
def uptoBulkEntry {H : Type} : Lit × DataW H → Nat
  | (.string bytes, d) => bytes.length + uptoBulk d + 1
  | (_, d) => uptoBulk d + 1
 end
def uptoSmall : (H : Type) → List (DataW H) → Bool := fun _ ds => decide (uptoBulkAll ds ≤ 1048576)
def OpenSpec.upto (s : _root_.Go.ChangeSpec) : _root_.Go.OpenSpec := { _root_.Go.OpenSpec.ofChange s with cond := some uptoSmall }

/-- 'barbicanlaw7.ScalarConst', WHERE WHAT IT READS IS OF BULK AT MOST 1048576: true; the input reads as it did. -/
def scalarConstUptoRow : OpenClaim := { program := "ytlllbgcfhfgaeaadoor", sum := "3dd60b307e42a0e0905fe95c48416cc9bd9d9e90809fbc519ae12d6fde147b16", func := "barbican/barbicanlaw7.ScalarConst", spec := "scalarConst", inPlace := ["math/bits.Add64"], unfollowed := true, recurses := true, named := ["math/bits.deBruijn64tab"], apart := false, laid := [("math/bits.deBruijn64tab", laid_math_bits_deBruijn64tab)], narrowed := true }
def ScalarConstUptoSaid : Prop := scalarConstUptoRow.holds Tryd.pinned (OpenSpec.upto scalarConstSpec)

/-- 'barbicanlaw7.ScalarMakes', WHERE WHAT IT READS IS OF BULK AT MOST 1048576: true; the input reads as it did. -/
def scalarMakesUptoRow : OpenClaim := { program := "ytlllbgcfhfgaeaadoor", sum := "3dd60b307e42a0e0905fe95c48416cc9bd9d9e90809fbc519ae12d6fde147b16", func := "barbican/barbicanlaw7.ScalarMakes", spec := "scalarMakes", inPlace := ["math/bits.Add64"], unfollowed := true, recurses := true, named := ["math/bits.deBruijn64tab"], apart := false, laid := [("math/bits.deBruijn64tab", laid_math_bits_deBruijn64tab)], narrowed := true }
def ScalarMakesUptoSaid : Prop := scalarMakesUptoRow.holds Tryd.pinned (OpenSpec.upto scalarMakesSpec)

/-- 'barbicanlaw7.ScalarClosed', WHERE WHAT IT READS IS OF BULK AT MOST 1048576: true; the input reads as it did. -/
def scalarClosedUptoRow : OpenClaim := { program := "ytlllbgcfhfgaeaadoor", sum := "3dd60b307e42a0e0905fe95c48416cc9bd9d9e90809fbc519ae12d6fde147b16", func := "barbican/barbicanlaw7.ScalarClosed", spec := "scalarClosed", inPlace := ["math/bits.Add64"], unfollowed := true, recurses := true, named := ["math/bits.deBruijn64tab"], apart := false, laid := [("math/bits.deBruijn64tab", laid_math_bits_deBruijn64tab)], narrowed := true }
def ScalarClosedUptoSaid : Prop := scalarClosedUptoRow.holds Tryd.pinned (OpenSpec.upto scalarClosedSpec)

/-- 'barbicanlaw7.ScalarTight', WHERE WHAT IT READS IS OF BULK AT MOST 1048576: true; the input reads as it did. -/
def scalarTightUptoRow : OpenClaim := { program := "ytlllbgcfhfgaeaadoor", sum := "3dd60b307e42a0e0905fe95c48416cc9bd9d9e90809fbc519ae12d6fde147b16", func := "barbican/barbicanlaw7.ScalarTight", spec := "scalarTight", inPlace := ["math/bits.Add64"], unfollowed := true, recurses := true, named := ["math/bits.deBruijn64tab"], apart := false, laid := [("math/bits.deBruijn64tab", laid_math_bits_deBruijn64tab)], narrowed := true }
def ScalarTightUptoSaid : Prop := scalarTightUptoRow.holds Tryd.pinned (OpenSpec.upto scalarTightSpec)

/-- 'barbicanlaw7.ScalarMasked', WHERE WHAT IT READS IS OF BULK AT MOST 1048576: true; the input reads as it did. -/
def scalarMaskedUptoRow : OpenClaim := { program := "ytlllbgcfhfgaeaadoor", sum := "3dd60b307e42a0e0905fe95c48416cc9bd9d9e90809fbc519ae12d6fde147b16", func := "barbican/barbicanlaw7.ScalarMasked", spec := "scalarMasked", inPlace := ["math/bits.Add64"], unfollowed := true, recurses := true, named := ["math/bits.deBruijn64tab"], apart := false, laid := [("math/bits.deBruijn64tab", laid_math_bits_deBruijn64tab)], narrowed := true }
def ScalarMaskedUptoSaid : Prop := scalarMaskedUptoRow.holds Tryd.pinned (OpenSpec.upto scalarMaskedSpec)

/-- 'barbicanlaw7.ScalarJoins', WHERE WHAT IT READS IS OF BULK AT MOST 1048576: true; the input reads as it did. -/
def scalarJoinsUptoRow : OpenClaim := { program := "ytlllbgcfhfgaeaadoor", sum := "3dd60b307e42a0e0905fe95c48416cc9bd9d9e90809fbc519ae12d6fde147b16", func := "barbican/barbicanlaw7.ScalarJoins", spec := "scalarJoins", inPlace := ["math/bits.Add64"], unfollowed := true, recurses := true, named := ["math/bits.deBruijn64tab"], apart := false, laid := [("math/bits.deBruijn64tab", laid_math_bits_deBruijn64tab)], narrowed := true }
def ScalarJoinsUptoSaid : Prop := scalarJoinsUptoRow.holds Tryd.pinned (OpenSpec.upto scalarJoinsSpec)

/-- 'barbicanlaw7.ScalarBranches', WHERE WHAT IT READS IS OF BULK AT MOST 1048576: true; the input reads as it did. -/
def scalarBranchesUptoRow : OpenClaim := { program := "ytlllbgcfhfgaeaadoor", sum := "3dd60b307e42a0e0905fe95c48416cc9bd9d9e90809fbc519ae12d6fde147b16", func := "barbican/barbicanlaw7.ScalarBranches", spec := "scalarBranches", inPlace := ["math/bits.Add64"], unfollowed := true, recurses := true, named := ["math/bits.deBruijn64tab"], apart := false, laid := [("math/bits.deBruijn64tab", laid_math_bits_deBruijn64tab)], narrowed := true }
def ScalarBranchesUptoSaid : Prop := scalarBranchesUptoRow.holds Tryd.pinned (OpenSpec.upto scalarBranchesSpec)

end Rows
end Go.Proofs.YtlllbgcfhfgaeaaDoor
