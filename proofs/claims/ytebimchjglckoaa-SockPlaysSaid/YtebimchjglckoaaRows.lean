/-
  No cell of these rows narrows 'for every input' (looked for: loops, veiled, ifaces, maps, wideKeys, modest, calm, conditions, laid).
  DERIVED. THE GIVEN ROWS OF THIS SEAT. 4 by the template 'for every input the law returns true; each argument reads behind the call as it read before'; 0 by the template 'total and deterministic' (their statements: YtebimchjglckoaaTotals.lean).
  GIVEN WITH THE SEED: the statements are not yours to turn. If you find one false, say at which input.
  Laid BY PROGRAM, IN A SANDBOX (cutbox-rows.mjs): the forced cells as the released guide's own fill.sh prints them over the translation dfacbb698b36c733… (all of the seat's roots in one cut). By AI agents, Wed Nov 11 2026. No macro, syntax, notation, axiom, sorry.
-/
import Derived.Test.YtebimchjglckoaaChecked
import GoSem.Claim
import GoSem.ClaimJoined
import GoSem.ClaimMapViews
import Derived.JoinedTies
import Derived.KernelRfl
namespace Go.Proofs.Ytebimchjglckoaa
/- THE CELL 'sum', in the pinned program and in every row, IS THE sha256 OF THE DUMP (.gsa) THAT YtebimchjglckoaaProg.lean LOADS. Nothing in Lean hashes anything: it is a label: what it is worth is what the hold of that sum in a sandbox is worth. -/
noncomputable def Try.pinned : Pinned := { name := "ytebimchjglckoaa", sum := "dfacbb698b36c733b4c657314d8abcb52874e2331b95d0c96fe4649f65468527", checked := Try.checked }
namespace Rows
def none {H : Type} : Left H := { results := [], args := [] }

/-- 'barbicanlaw11.SockCounts': WHATEVER THE INPUT: true; the input reads as it did. -/
def sockCountsSpec : ChangeSpec := { name := "sockCounts", fn := fun _ => fun
  | [d1, d2] => { results := [.lit (.bool true)], args := [d1, d2] }
  | _ => none }
def sockCountsRow : OpenClaim := { program := "ytebimchjglckoaa", sum := "dfacbb698b36c733b4c657314d8abcb52874e2331b95d0c96fe4649f65468527", func := "barbican/barbicanlaw11.SockCounts", spec := "sockCounts", apart := false }
def SockCountsSaid : Prop := sockCountsRow.holds Try.pinned (OpenSpec.ofChange sockCountsSpec)

/-- ITS FALSE NEIGHBOUR: 'it returns false'. Refute it at one input. -/
def sockCountsWrong : ChangeSpec := { name := "sockCounts", fn := fun _ => fun
  | [d1, d2] => { results := [.lit (.bool false)], args := [d1, d2] }
  | _ => none }
def SockCountsWrongFalsely : Prop := sockCountsRow.holds Try.pinned (OpenSpec.ofChange sockCountsWrong)

/-- 'barbicanlaw11.SockFields': WHATEVER THE INPUT: true; the input reads as it did. -/
def sockFieldsSpec : ChangeSpec := { name := "sockFields", fn := fun _ => fun
  | [d1, d2, d3] => { results := [.lit (.bool true)], args := [d1, d2, d3] }
  | _ => none }
def sockFieldsRow : OpenClaim := { program := "ytebimchjglckoaa", sum := "dfacbb698b36c733b4c657314d8abcb52874e2331b95d0c96fe4649f65468527", func := "barbican/barbicanlaw11.SockFields", spec := "sockFields", apart := false }
def SockFieldsSaid : Prop := sockFieldsRow.holds Try.pinned (OpenSpec.ofChange sockFieldsSpec)

/-- ITS FALSE NEIGHBOUR: 'it returns false'. Refute it at one input. -/
def sockFieldsWrong : ChangeSpec := { name := "sockFields", fn := fun _ => fun
  | [d1, d2, d3] => { results := [.lit (.bool false)], args := [d1, d2, d3] }
  | _ => none }
def SockFieldsWrongFalsely : Prop := sockFieldsRow.holds Try.pinned (OpenSpec.ofChange sockFieldsWrong)

/-- 'barbicanlaw11.SockLedger': WHATEVER THE INPUT: true; the input reads as it did. -/
def sockLedgerSpec : ChangeSpec := { name := "sockLedger", fn := fun _ => fun
  | [d1, d2] => { results := [.lit (.bool true)], args := [d1, d2] }
  | _ => none }
def sockLedgerRow : OpenClaim := { program := "ytebimchjglckoaa", sum := "dfacbb698b36c733b4c657314d8abcb52874e2331b95d0c96fe4649f65468527", func := "barbican/barbicanlaw11.SockLedger", spec := "sockLedger", recurses := true, apart := false }
def SockLedgerSaid : Prop := sockLedgerRow.holds Try.pinned (OpenSpec.ofChange sockLedgerSpec)

/-- ITS FALSE NEIGHBOUR: 'it returns false'. Refute it at one input. -/
def sockLedgerWrong : ChangeSpec := { name := "sockLedger", fn := fun _ => fun
  | [d1, d2] => { results := [.lit (.bool false)], args := [d1, d2] }
  | _ => none }
def SockLedgerWrongFalsely : Prop := sockLedgerRow.holds Try.pinned (OpenSpec.ofChange sockLedgerWrong)

/-- 'barbicanlaw11.SockPlays': WHATEVER THE INPUT: true; the input reads as it did. -/
def sockPlaysSpec : ChangeSpec := { name := "sockPlays", fn := fun _ => fun
  | [d1, d2] => { results := [.lit (.bool true)], args := [d1, d2] }
  | _ => none }
def sockPlaysRow : OpenClaim := { program := "ytebimchjglckoaa", sum := "dfacbb698b36c733b4c657314d8abcb52874e2331b95d0c96fe4649f65468527", func := "barbican/barbicanlaw11.SockPlays", spec := "sockPlays", recurses := true, apart := false }
def SockPlaysSaid : Prop := sockPlaysRow.holds Try.pinned (OpenSpec.ofChange sockPlaysSpec)

/-- ITS FALSE NEIGHBOUR: 'it returns false'. Refute it at one input. -/
def sockPlaysWrong : ChangeSpec := { name := "sockPlays", fn := fun _ => fun
  | [d1, d2] => { results := [.lit (.bool false)], args := [d1, d2] }
  | _ => none }
def SockPlaysWrongFalsely : Prop := sockPlaysRow.holds Try.pinned (OpenSpec.ofChange sockPlaysWrong)

/- THE SECOND FORM. 'bulk': how many values and letters a reading holds, each counted each time it is reached (what is shared counts as often as it is met; a slice's spare places count too). A statement '..UptoSaid' is the law's where the arguments, and the package variables that the reading takes, are together of bulk at most 1048576: NARROWER than '..Said'. Prove '..Said' where nothing that the law and all that it calls make is longer than what came in: it says more and counts as full. Else prove '..UptoSaid'. A law counts once. -/
mutual
def uptoBulk {H : Type} : DataW H → Nat
  | .lit (.string bytes) => bytes.length + 1
  | .lit _ => 1
  | .nil => 1
  | .ptr d => uptoBulk d + 1
  | .slice elems spare => uptoBulkAll elems + uptoBulkAll spare + 1
  | .agg parts => uptoBulkAll parts + 1
  | .iface _ d => uptoBulk d + 1
  | .map entries => uptoBulkEntries entries + 1
  | .held _ => 1
def uptoBulkAll {H : Type} : List (DataW H) → Nat
  | [] => 0
  | d :: r => uptoBulk d + uptoBulkAll r
def uptoBulkEntries {H : Type} : List (Lit × DataW H) → Nat
  | [] => 0
  | x :: r => uptoBulkEntry x + uptoBulkEntries r
def uptoBulkEntry {H : Type} : Lit × DataW H → Nat
  | (.string bytes, d) => bytes.length + uptoBulk d + 1
  | (_, d) => uptoBulk d + 1
 end
def uptoSmall : (H : Type) → List (DataW H) → Bool := fun _ ds => decide (uptoBulkAll ds ≤ 1048576)
def OpenSpec.upto (s : _root_.Go.ChangeSpec) : _root_.Go.OpenSpec := { _root_.Go.OpenSpec.ofChange s with cond := some uptoSmall }

/-- 'barbicanlaw11.SockCounts', WHERE WHAT IT READS IS OF BULK AT MOST 1048576: true; the input reads as it did. -/
def sockCountsUptoRow : OpenClaim := { program := "ytebimchjglckoaa", sum := "dfacbb698b36c733b4c657314d8abcb52874e2331b95d0c96fe4649f65468527", func := "barbican/barbicanlaw11.SockCounts", spec := "sockCounts", apart := false, narrowed := true }
def SockCountsUptoSaid : Prop := sockCountsUptoRow.holds Try.pinned (OpenSpec.upto sockCountsSpec)

/-- 'barbicanlaw11.SockFields', WHERE WHAT IT READS IS OF BULK AT MOST 1048576: true; the input reads as it did. -/
def sockFieldsUptoRow : OpenClaim := { program := "ytebimchjglckoaa", sum := "dfacbb698b36c733b4c657314d8abcb52874e2331b95d0c96fe4649f65468527", func := "barbican/barbicanlaw11.SockFields", spec := "sockFields", apart := false, narrowed := true }
def SockFieldsUptoSaid : Prop := sockFieldsUptoRow.holds Try.pinned (OpenSpec.upto sockFieldsSpec)

/-- 'barbicanlaw11.SockLedger', WHERE WHAT IT READS IS OF BULK AT MOST 1048576: true; the input reads as it did. -/
def sockLedgerUptoRow : OpenClaim := { program := "ytebimchjglckoaa", sum := "dfacbb698b36c733b4c657314d8abcb52874e2331b95d0c96fe4649f65468527", func := "barbican/barbicanlaw11.SockLedger", spec := "sockLedger", recurses := true, apart := false, narrowed := true }
def SockLedgerUptoSaid : Prop := sockLedgerUptoRow.holds Try.pinned (OpenSpec.upto sockLedgerSpec)

/-- 'barbicanlaw11.SockPlays', WHERE WHAT IT READS IS OF BULK AT MOST 1048576: true; the input reads as it did. -/
def sockPlaysUptoRow : OpenClaim := { program := "ytebimchjglckoaa", sum := "dfacbb698b36c733b4c657314d8abcb52874e2331b95d0c96fe4649f65468527", func := "barbican/barbicanlaw11.SockPlays", spec := "sockPlays", recurses := true, apart := false, narrowed := true }
def SockPlaysUptoSaid : Prop := sockPlaysUptoRow.holds Try.pinned (OpenSpec.upto sockPlaysSpec)

end Rows
end Go.Proofs.Ytebimchjglckoaa
