/-
  No cell of these rows narrows 'for every input' (looked for: loops, veiled, ifaces, maps, wideKeys, modest, calm, conditions, laid).
  DERIVED. THE GIVEN ROWS OF THIS SEAT. 7 by the template 'for every input the law returns true; each argument reads behind the call as it read before'; 0 by the template 'total and deterministic' (their statements: YthcfemfljholbaaTotals.lean).
  GIVEN WITH THE SEED: the statements are not yours to turn. If you find one false, say at which input.
  Laid BY PROGRAM, IN A SANDBOX (cutbox-rows.mjs): the forced cells as the released guide's own fill.sh prints them over the translation b42481551fe901fd… (all of the seat's roots in one cut). By AI agents, Wed Nov 11 2026. No macro, syntax, notation, axiom, sorry.
-/
import Derived.Test.YthcfemfljholbaaChecked
import GoSem.Claim
import GoSem.ClaimJoined
import GoSem.ClaimMapViews
import Derived.JoinedTies
import Derived.KernelRfl
namespace Go.Proofs.Ythcfemfljholbaa
/- THE CELL 'sum', in the pinned program and in every row, IS THE sha256 OF THE DUMP (.gsa) THAT YthcfemfljholbaaProg.lean LOADS. Nothing in Lean hashes anything: it is a label: what it is worth is what the hold of that sum in a sandbox is worth. -/
noncomputable def Try.pinned : Pinned := { name := "ythcfemfljholbaa", sum := "b42481551fe901fd01ef82b20f163397a9a767a6b642524b3037aca577abd5c1", checked := Try.checked }
namespace Rows
def none {H : Type} : Left H := { results := [], args := [] }

/-- 'barbicanlaw1.InsnWides': WHATEVER THE INPUT: true; the input reads as it did. -/
def insnWidesSpec : ChangeSpec := { name := "insnWides", fn := fun _ => fun
  | [d1, d2] => { results := [.lit (.bool true)], args := [d1, d2] }
  | _ => none }
def insnWidesRow : OpenClaim := { program := "ythcfemfljholbaa", sum := "b42481551fe901fd01ef82b20f163397a9a767a6b642524b3037aca577abd5c1", func := "barbican/barbicanlaw1.InsnWides", spec := "insnWides", recurses := true, apart := false }
def InsnWidesSaid : Prop := insnWidesRow.holds Try.pinned (OpenSpec.ofChange insnWidesSpec)

/-- ITS FALSE NEIGHBOUR: 'it returns false'. Refute it at one input. -/
def insnWidesWrong : ChangeSpec := { name := "insnWides", fn := fun _ => fun
  | [d1, d2] => { results := [.lit (.bool false)], args := [d1, d2] }
  | _ => none }
def InsnWidesWrongFalsely : Prop := insnWidesRow.holds Try.pinned (OpenSpec.ofChange insnWidesWrong)

/-- 'barbicanlaw1.InsnChecks': WHATEVER THE INPUT: true; the input reads as it did. -/
def insnChecksSpec : ChangeSpec := { name := "insnChecks", fn := fun _ => fun
  | [d] => { results := [.lit (.bool true)], args := [d] }
  | _ => none }
def insnChecksRow : OpenClaim := { program := "ythcfemfljholbaa", sum := "b42481551fe901fd01ef82b20f163397a9a767a6b642524b3037aca577abd5c1", func := "barbican/barbicanlaw1.InsnChecks", spec := "insnChecks", recurses := true, apart := false }
def InsnChecksSaid : Prop := insnChecksRow.holds Try.pinned (OpenSpec.ofChange insnChecksSpec)

/-- ITS FALSE NEIGHBOUR: 'it returns false'. Refute it at one input. -/
def insnChecksWrong : ChangeSpec := { name := "insnChecks", fn := fun _ => fun
  | [d] => { results := [.lit (.bool false)], args := [d] }
  | _ => none }
def InsnChecksWrongFalsely : Prop := insnChecksRow.holds Try.pinned (OpenSpec.ofChange insnChecksWrong)

/-- 'barbicanlaw1.InsnParts': WHATEVER THE INPUT: true; the input reads as it did. -/
def insnPartsSpec : ChangeSpec := { name := "insnParts", fn := fun _ => fun
  | [d1, d2] => { results := [.lit (.bool true)], args := [d1, d2] }
  | _ => none }
def insnPartsRow : OpenClaim := { program := "ythcfemfljholbaa", sum := "b42481551fe901fd01ef82b20f163397a9a767a6b642524b3037aca577abd5c1", func := "barbican/barbicanlaw1.InsnParts", spec := "insnParts", recurses := true, apart := false }
def InsnPartsSaid : Prop := insnPartsRow.holds Try.pinned (OpenSpec.ofChange insnPartsSpec)

/-- ITS FALSE NEIGHBOUR: 'it returns false'. Refute it at one input. -/
def insnPartsWrong : ChangeSpec := { name := "insnParts", fn := fun _ => fun
  | [d1, d2] => { results := [.lit (.bool false)], args := [d1, d2] }
  | _ => none }
def InsnPartsWrongFalsely : Prop := insnPartsRow.holds Try.pinned (OpenSpec.ofChange insnPartsWrong)

/-- 'barbicanlaw1.InsnJumps': WHATEVER THE INPUT: true; the input reads as it did. -/
def insnJumpsSpec : ChangeSpec := { name := "insnJumps", fn := fun _ => fun
  | [d1, d2, d3, d4, d5] => { results := [.lit (.bool true)], args := [d1, d2, d3, d4, d5] }
  | _ => none }
def insnJumpsRow : OpenClaim := { program := "ythcfemfljholbaa", sum := "b42481551fe901fd01ef82b20f163397a9a767a6b642524b3037aca577abd5c1", func := "barbican/barbicanlaw1.InsnJumps", spec := "insnJumps", recurses := true, apart := false }
def InsnJumpsSaid : Prop := insnJumpsRow.holds Try.pinned (OpenSpec.ofChange insnJumpsSpec)

/-- ITS FALSE NEIGHBOUR: 'it returns false'. Refute it at one input. -/
def insnJumpsWrong : ChangeSpec := { name := "insnJumps", fn := fun _ => fun
  | [d1, d2, d3, d4, d5] => { results := [.lit (.bool false)], args := [d1, d2, d3, d4, d5] }
  | _ => none }
def InsnJumpsWrongFalsely : Prop := insnJumpsRow.holds Try.pinned (OpenSpec.ofChange insnJumpsWrong)

/-- 'barbicanlaw1.InsnBytes': WHATEVER THE INPUT: true; the input reads as it did. -/
def insnBytesSpec : ChangeSpec := { name := "insnBytes", fn := fun _ => fun
  | [d1, d2] => { results := [.lit (.bool true)], args := [d1, d2] }
  | _ => none }
def insnBytesRow : OpenClaim := { program := "ythcfemfljholbaa", sum := "b42481551fe901fd01ef82b20f163397a9a767a6b642524b3037aca577abd5c1", func := "barbican/barbicanlaw1.InsnBytes", spec := "insnBytes", recurses := true, apart := false }
def InsnBytesSaid : Prop := insnBytesRow.holds Try.pinned (OpenSpec.ofChange insnBytesSpec)

/-- ITS FALSE NEIGHBOUR: 'it returns false'. Refute it at one input. -/
def insnBytesWrong : ChangeSpec := { name := "insnBytes", fn := fun _ => fun
  | [d1, d2] => { results := [.lit (.bool false)], args := [d1, d2] }
  | _ => none }
def InsnBytesWrongFalsely : Prop := insnBytesRow.holds Try.pinned (OpenSpec.ofChange insnBytesWrong)

/-- 'barbicanlaw1.InsnJoined': WHATEVER THE INPUT: true; the input reads as it did. -/
def insnJoinedSpec : ChangeSpec := { name := "insnJoined", fn := fun _ => fun
  | [d1, d2] => { results := [.lit (.bool true)], args := [d1, d2] }
  | _ => none }
def insnJoinedRow : OpenClaim := { program := "ythcfemfljholbaa", sum := "b42481551fe901fd01ef82b20f163397a9a767a6b642524b3037aca577abd5c1", func := "barbican/barbicanlaw1.InsnJoined", spec := "insnJoined", recurses := true, apart := false }
def InsnJoinedSaid : Prop := insnJoinedRow.holds Try.pinned (OpenSpec.ofChange insnJoinedSpec)

/-- ITS FALSE NEIGHBOUR: 'it returns false'. Refute it at one input. -/
def insnJoinedWrong : ChangeSpec := { name := "insnJoined", fn := fun _ => fun
  | [d1, d2] => { results := [.lit (.bool false)], args := [d1, d2] }
  | _ => none }
def InsnJoinedWrongFalsely : Prop := insnJoinedRow.holds Try.pinned (OpenSpec.ofChange insnJoinedWrong)

/-- 'barbicanlaw1.InsnStays': WHATEVER THE INPUT: true; the input reads as it did. -/
def insnStaysSpec : ChangeSpec := { name := "insnStays", fn := fun _ => fun
  | [d] => { results := [.lit (.bool true)], args := [d] }
  | _ => none }
def insnStaysRow : OpenClaim := { program := "ythcfemfljholbaa", sum := "b42481551fe901fd01ef82b20f163397a9a767a6b642524b3037aca577abd5c1", func := "barbican/barbicanlaw1.InsnStays", spec := "insnStays", recurses := true, apart := false }
def InsnStaysSaid : Prop := insnStaysRow.holds Try.pinned (OpenSpec.ofChange insnStaysSpec)

/-- ITS FALSE NEIGHBOUR: 'it returns false'. Refute it at one input. -/
def insnStaysWrong : ChangeSpec := { name := "insnStays", fn := fun _ => fun
  | [d] => { results := [.lit (.bool false)], args := [d] }
  | _ => none }
def InsnStaysWrongFalsely : Prop := insnStaysRow.holds Try.pinned (OpenSpec.ofChange insnStaysWrong)

/- THE SECOND FORM. 'bulk': how many values and letters a reading holds, each counted each time it is reached (what is shared counts as often as it is met; a slice's spare places count too). A statement '..UptoSaid' is the law's where the arguments, and the package variables that the reading takes, are together of bulk at most 1048576: NARROWER than '..Said'. Prove '..Said' where nothing that the law and all that it calls make is longer than what came in: it says more and counts as full. Else prove '..UptoSaid'. A law counts once. -/
mutual
def uptoBulk {H : Type} : DataW H → Nat
  | .lit (.string bytes) => bytes.length + 1
  | .lit _ => 1
  | .nil => 1
  | .ptr d => uptoBulk d + 1
  | .slice elems spare => uptoBulkAll elems + uptoBulkAll spare + 1
  | .agg parts => uptoBulkAll parts + 1
  | .iface _ d => uptoBulk d + 1
  | .map entries => uptoBulkEntries entries + 1
  | .held _ => 1
def uptoBulkAll {H : Type} : List (DataW H) → Nat
  | [] => 0
  | d :: r => uptoBulk d + uptoBulkAll r
def uptoBulkEntries {H : Type} : List (Lit × DataW H) → Nat
  | [] => 0
  | x :: r => uptoBulkEntry x + uptoBulkEntries r
def uptoBulkEntry {H : Type} : Lit × DataW H → Nat
  | (.string bytes, d) => bytes.length + uptoBulk d + 1
  | (_, d) => uptoBulk d + 1
 end
def uptoSmall : (H : Type) → List (DataW H) → Bool := fun _ ds => decide (uptoBulkAll ds ≤ 1048576)
def OpenSpec.upto (s : _root_.Go.ChangeSpec) : _root_.Go.OpenSpec := { _root_.Go.OpenSpec.ofChange s with cond := some uptoSmall }

/-- 'barbicanlaw1.InsnWides', WHERE WHAT IT READS IS OF BULK AT MOST 1048576: true; the input reads as it did. -/
def insnWidesUptoRow : OpenClaim := { program := "ythcfemfljholbaa", sum := "b42481551fe901fd01ef82b20f163397a9a767a6b642524b3037aca577abd5c1", func := "barbican/barbicanlaw1.InsnWides", spec := "insnWides", recurses := true, apart := false, narrowed := true }
def InsnWidesUptoSaid : Prop := insnWidesUptoRow.holds Try.pinned (OpenSpec.upto insnWidesSpec)

/-- 'barbicanlaw1.InsnChecks', WHERE WHAT IT READS IS OF BULK AT MOST 1048576: true; the input reads as it did. -/
def insnChecksUptoRow : OpenClaim := { program := "ythcfemfljholbaa", sum := "b42481551fe901fd01ef82b20f163397a9a767a6b642524b3037aca577abd5c1", func := "barbican/barbicanlaw1.InsnChecks", spec := "insnChecks", recurses := true, apart := false, narrowed := true }
def InsnChecksUptoSaid : Prop := insnChecksUptoRow.holds Try.pinned (OpenSpec.upto insnChecksSpec)

/-- 'barbicanlaw1.InsnParts', WHERE WHAT IT READS IS OF BULK AT MOST 1048576: true; the input reads as it did. -/
def insnPartsUptoRow : OpenClaim := { program := "ythcfemfljholbaa", sum := "b42481551fe901fd01ef82b20f163397a9a767a6b642524b3037aca577abd5c1", func := "barbican/barbicanlaw1.InsnParts", spec := "insnParts", recurses := true, apart := false, narrowed := true }
def InsnPartsUptoSaid : Prop := insnPartsUptoRow.holds Try.pinned (OpenSpec.upto insnPartsSpec)

/-- 'barbicanlaw1.InsnJumps', WHERE WHAT IT READS IS OF BULK AT MOST 1048576: true; the input reads as it did. -/
def insnJumpsUptoRow : OpenClaim := { program := "ythcfemfljholbaa", sum := "b42481551fe901fd01ef82b20f163397a9a767a6b642524b3037aca577abd5c1", func := "barbican/barbicanlaw1.InsnJumps", spec := "insnJumps", recurses := true, apart := false, narrowed := true }
def InsnJumpsUptoSaid : Prop := insnJumpsUptoRow.holds Try.pinned (OpenSpec.upto insnJumpsSpec)

/-- 'barbicanlaw1.InsnBytes', WHERE WHAT IT READS IS OF BULK AT MOST 1048576: true; the input reads as it did. -/
def insnBytesUptoRow : OpenClaim := { program := "ythcfemfljholbaa", sum := "b42481551fe901fd01ef82b20f163397a9a767a6b642524b3037aca577abd5c1", func := "barbican/barbicanlaw1.InsnBytes", spec := "insnBytes", recurses := true, apart := false, narrowed := true }
def InsnBytesUptoSaid : Prop := insnBytesUptoRow.holds Try.pinned (OpenSpec.upto insnBytesSpec)

/-- 'barbicanlaw1.InsnJoined', WHERE WHAT IT READS IS OF BULK AT MOST 1048576: true; the input reads as it did. -/
def insnJoinedUptoRow : OpenClaim := { program := "ythcfemfljholbaa", sum := "b42481551fe901fd01ef82b20f163397a9a767a6b642524b3037aca577abd5c1", func := "barbican/barbicanlaw1.InsnJoined", spec := "insnJoined", recurses := true, apart := false, narrowed := true }
def InsnJoinedUptoSaid : Prop := insnJoinedUptoRow.holds Try.pinned (OpenSpec.upto insnJoinedSpec)

/-- 'barbicanlaw1.InsnStays', WHERE WHAT IT READS IS OF BULK AT MOST 1048576: true; the input reads as it did. -/
def insnStaysUptoRow : OpenClaim := { program := "ythcfemfljholbaa", sum := "b42481551fe901fd01ef82b20f163397a9a767a6b642524b3037aca577abd5c1", func := "barbican/barbicanlaw1.InsnStays", spec := "insnStays", recurses := true, apart := false, narrowed := true }
def InsnStaysUptoSaid : Prop := insnStaysUptoRow.holds Try.pinned (OpenSpec.upto insnStaysSpec)

end Rows
end Go.Proofs.Ythcfemfljholbaa
