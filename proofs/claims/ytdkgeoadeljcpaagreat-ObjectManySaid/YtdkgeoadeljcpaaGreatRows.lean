/-
  No cell of these rows narrows 'for every input' (looked for: loops, veiled, ifaces, maps, wideKeys, modest, calm, conditions, laid).
  DERIVED. THE GIVEN ROWS OF THIS SEAT. 6 by the template 'for every input the law returns true; each argument reads behind the call as it read before'; 0 by the template 'total and deterministic' (their statements: YtdkgeoadeljcpaaGreatTotals.lean).
  GIVEN WITH THE SEED: the statements are not yours to turn. If you find one false, say at which input.
  Laid BY PROGRAM, IN A SANDBOX (cutbox-rows.mjs): the forced cells as the released guide's own fill.sh prints them over the translation ce46b12cf7203ea7… (all of the seat's roots in one cut). By AI agents, Wed Nov 11 2026. No macro, syntax, notation, axiom, sorry.
-/
import Derived.Test.YtdkgeoadeljcpaaGreatChecked
import GoSem.Claim
import GoSem.ClaimJoined
import GoSem.ClaimMapViews
import Derived.JoinedTies
import Derived.KernelRfl
namespace Go.Proofs.YtdkgeoadeljcpaaGreat
/- THE CELL 'sum', in the pinned program and in every row, IS THE sha256 OF THE DUMP (.gsa) THAT YtdkgeoadeljcpaaGreatProg.lean LOADS. Nothing in Lean hashes anything: it is a label: what it is worth is what the hold of that sum in a sandbox is worth. -/
noncomputable def Tryz.pinned : Pinned := { name := "ytdkgeoadeljcpaagreat", sum := "ce46b12cf7203ea7f891483a156e3fb4f80a08f9f1f8a854f8a250a99dc6d493", checked := Tryz.checked }
namespace Rows
def none {H : Type} : Left H := { results := [], args := [] }

/-- 'barbicanlaw5.ObjectChecks': WHATEVER THE INPUT: true; the input reads as it did. -/
def objectChecksSpec : ChangeSpec := { name := "objectChecks", fn := fun _ => fun
  | [d1, d2] => { results := [.lit (.bool true)], args := [d1, d2] }
  | _ => none }
def objectChecksRow : OpenClaim := { program := "ytdkgeoadeljcpaagreat", sum := "ce46b12cf7203ea7f891483a156e3fb4f80a08f9f1f8a854f8a250a99dc6d493", func := "barbican/barbicanlaw5.ObjectChecks", spec := "objectChecks", unfollowed := true, recurses := true, apart := false }
def ObjectChecksSaid : Prop := objectChecksRow.holds Tryz.pinned (OpenSpec.ofChange objectChecksSpec)

/-- ITS FALSE NEIGHBOUR: 'it returns false'. Refute it at one input. -/
def objectChecksWrong : ChangeSpec := { name := "objectChecks", fn := fun _ => fun
  | [d1, d2] => { results := [.lit (.bool false)], args := [d1, d2] }
  | _ => none }
def ObjectChecksWrongFalsely : Prop := objectChecksRow.holds Tryz.pinned (OpenSpec.ofChange objectChecksWrong)

/-- 'barbicanlaw5.ObjectBytes': WHATEVER THE INPUT: true; the input reads as it did. -/
def objectBytesSpec : ChangeSpec := { name := "objectBytes", fn := fun _ => fun
  | [d] => { results := [.lit (.bool true)], args := [d] }
  | _ => none }
def objectBytesRow : OpenClaim := { program := "ytdkgeoadeljcpaagreat", sum := "ce46b12cf7203ea7f891483a156e3fb4f80a08f9f1f8a854f8a250a99dc6d493", func := "barbican/barbicanlaw5.ObjectBytes", spec := "objectBytes", unfollowed := true, recurses := true, apart := false }
def ObjectBytesSaid : Prop := objectBytesRow.holds Tryz.pinned (OpenSpec.ofChange objectBytesSpec)

/-- ITS FALSE NEIGHBOUR: 'it returns false'. Refute it at one input. -/
def objectBytesWrong : ChangeSpec := { name := "objectBytes", fn := fun _ => fun
  | [d] => { results := [.lit (.bool false)], args := [d] }
  | _ => none }
def ObjectBytesWrongFalsely : Prop := objectBytesRow.holds Tryz.pinned (OpenSpec.ofChange objectBytesWrong)

/-- 'barbicanlaw5.ObjectReads': WHATEVER THE INPUT: true; the input reads as it did. -/
def objectReadsSpec : ChangeSpec := { name := "objectReads", fn := fun _ => fun
  | [d] => { results := [.lit (.bool true)], args := [d] }
  | _ => none }
def objectReadsRow : OpenClaim := { program := "ytdkgeoadeljcpaagreat", sum := "ce46b12cf7203ea7f891483a156e3fb4f80a08f9f1f8a854f8a250a99dc6d493", func := "barbican/barbicanlaw5.ObjectReads", spec := "objectReads", unfollowed := true, recurses := true, apart := false }
def ObjectReadsSaid : Prop := objectReadsRow.holds Tryz.pinned (OpenSpec.ofChange objectReadsSpec)

/-- ITS FALSE NEIGHBOUR: 'it returns false'. Refute it at one input. -/
def objectReadsWrong : ChangeSpec := { name := "objectReads", fn := fun _ => fun
  | [d] => { results := [.lit (.bool false)], args := [d] }
  | _ => none }
def ObjectReadsWrongFalsely : Prop := objectReadsRow.holds Tryz.pinned (OpenSpec.ofChange objectReadsWrong)

/-- 'barbicanlaw5.ObjectBack': WHATEVER THE INPUT: true; the input reads as it did. -/
def objectBackSpec : ChangeSpec := { name := "objectBack", fn := fun _ => fun
  | [d1, d2, d3, d4] => { results := [.lit (.bool true)], args := [d1, d2, d3, d4] }
  | _ => none }
def objectBackRow : OpenClaim := { program := "ytdkgeoadeljcpaagreat", sum := "ce46b12cf7203ea7f891483a156e3fb4f80a08f9f1f8a854f8a250a99dc6d493", func := "barbican/barbicanlaw5.ObjectBack", spec := "objectBack", unfollowed := true, recurses := true, apart := false }
def ObjectBackSaid : Prop := objectBackRow.holds Tryz.pinned (OpenSpec.ofChange objectBackSpec)

/-- ITS FALSE NEIGHBOUR: 'it returns false'. Refute it at one input. -/
def objectBackWrong : ChangeSpec := { name := "objectBack", fn := fun _ => fun
  | [d1, d2, d3, d4] => { results := [.lit (.bool false)], args := [d1, d2, d3, d4] }
  | _ => none }
def ObjectBackWrongFalsely : Prop := objectBackRow.holds Tryz.pinned (OpenSpec.ofChange objectBackWrong)

/-- 'barbicanlaw5.ObjectDefs': WHATEVER THE INPUT: true; the input reads as it did. -/
def objectDefsSpec : ChangeSpec := { name := "objectDefs", fn := fun _ => fun
  | [d1, d2, d3, d4, d5] => { results := [.lit (.bool true)], args := [d1, d2, d3, d4, d5] }
  | _ => none }
def objectDefsRow : OpenClaim := { program := "ytdkgeoadeljcpaagreat", sum := "ce46b12cf7203ea7f891483a156e3fb4f80a08f9f1f8a854f8a250a99dc6d493", func := "barbican/barbicanlaw5.ObjectDefs", spec := "objectDefs", unfollowed := true, recurses := true, apart := false }
def ObjectDefsSaid : Prop := objectDefsRow.holds Tryz.pinned (OpenSpec.ofChange objectDefsSpec)

/-- ITS FALSE NEIGHBOUR: 'it returns false'. Refute it at one input. -/
def objectDefsWrong : ChangeSpec := { name := "objectDefs", fn := fun _ => fun
  | [d1, d2, d3, d4, d5] => { results := [.lit (.bool false)], args := [d1, d2, d3, d4, d5] }
  | _ => none }
def ObjectDefsWrongFalsely : Prop := objectDefsRow.holds Tryz.pinned (OpenSpec.ofChange objectDefsWrong)

/-- 'barbicanlaw5.ObjectMany': WHATEVER THE INPUT: true; the input reads as it did. -/
def objectManySpec : ChangeSpec := { name := "objectMany", fn := fun _ => fun
  | [d1, d2, d3] => { results := [.lit (.bool true)], args := [d1, d2, d3] }
  | _ => none }
def objectManyRow : OpenClaim := { program := "ytdkgeoadeljcpaagreat", sum := "ce46b12cf7203ea7f891483a156e3fb4f80a08f9f1f8a854f8a250a99dc6d493", func := "barbican/barbicanlaw5.ObjectMany", spec := "objectMany", unfollowed := true, recurses := true, apart := false }
def ObjectManySaid : Prop := objectManyRow.holds Tryz.pinned (OpenSpec.ofChange objectManySpec)

/-- ITS FALSE NEIGHBOUR: 'it returns false'. Refute it at one input. -/
def objectManyWrong : ChangeSpec := { name := "objectMany", fn := fun _ => fun
  | [d1, d2, d3] => { results := [.lit (.bool false)], args := [d1, d2, d3] }
  | _ => none }
def ObjectManyWrongFalsely : Prop := objectManyRow.holds Tryz.pinned (OpenSpec.ofChange objectManyWrong)

/- THE SECOND FORM. 'bulk': how many values and letters a reading holds, each counted each time it is reached (what is shared counts as often as it is met; a slice's spare places count too). A statement '..UptoSaid' is the law's where the arguments, and the package variables that the reading takes, are together of bulk at most 1048576: NARROWER than '..Said'. Prove '..Said' where nothing that the law and all that it calls make is longer than what came in: it says more and counts as full. Else prove '..UptoSaid'. A law counts once. -/
mutual
def uptoBulk {H : Type} : DataW H → Nat
  | .lit (.string bytes) => bytes.length + 1
  | .lit _ => 1
  | .nil => 1
  | .ptr d => uptoBulk d + 1
  | .slice elems spare => uptoBulkAll elems + uptoBulkAll spare + 1
  | .agg parts => uptoBulkAll parts + 1
  | .iface _ d => uptoBulk d + 1
  | .map entries => uptoBulkEntries entries + 1
  | .held _ => 1
def uptoBulkAll {H : Type} : List (DataW H) → Nat
  | [] => 0
  | d :: r => uptoBulk d + uptoBulkAll r
def uptoBulkEntries {H : Type} : List (Lit × DataW H) → Nat
  | [] => 0
  | x :: r => uptoBulkEntry x + uptoBulkEntries r
def uptoBulkEntry {H : Type} : Lit × DataW H → Nat
  | (.string bytes, d) => bytes.length + uptoBulk d + 1
  | (_, d) => uptoBulk d + 1
 end
def uptoSmall : (H : Type) → List (DataW H) → Bool := fun _ ds => decide (uptoBulkAll ds ≤ 1048576)
def OpenSpec.upto (s : _root_.Go.ChangeSpec) : _root_.Go.OpenSpec := { _root_.Go.OpenSpec.ofChange s with cond := some uptoSmall }

/-- 'barbicanlaw5.ObjectChecks', WHERE WHAT IT READS IS OF BULK AT MOST 1048576: true; the input reads as it did. -/
def objectChecksUptoRow : OpenClaim := { program := "ytdkgeoadeljcpaagreat", sum := "ce46b12cf7203ea7f891483a156e3fb4f80a08f9f1f8a854f8a250a99dc6d493", func := "barbican/barbicanlaw5.ObjectChecks", spec := "objectChecks", unfollowed := true, recurses := true, apart := false, narrowed := true }
def ObjectChecksUptoSaid : Prop := objectChecksUptoRow.holds Tryz.pinned (OpenSpec.upto objectChecksSpec)

/-- 'barbicanlaw5.ObjectBytes', WHERE WHAT IT READS IS OF BULK AT MOST 1048576: true; the input reads as it did. -/
def objectBytesUptoRow : OpenClaim := { program := "ytdkgeoadeljcpaagreat", sum := "ce46b12cf7203ea7f891483a156e3fb4f80a08f9f1f8a854f8a250a99dc6d493", func := "barbican/barbicanlaw5.ObjectBytes", spec := "objectBytes", unfollowed := true, recurses := true, apart := false, narrowed := true }
def ObjectBytesUptoSaid : Prop := objectBytesUptoRow.holds Tryz.pinned (OpenSpec.upto objectBytesSpec)

/-- 'barbicanlaw5.ObjectReads', WHERE WHAT IT READS IS OF BULK AT MOST 1048576: true; the input reads as it did. -/
def objectReadsUptoRow : OpenClaim := { program := "ytdkgeoadeljcpaagreat", sum := "ce46b12cf7203ea7f891483a156e3fb4f80a08f9f1f8a854f8a250a99dc6d493", func := "barbican/barbicanlaw5.ObjectReads", spec := "objectReads", unfollowed := true, recurses := true, apart := false, narrowed := true }
def ObjectReadsUptoSaid : Prop := objectReadsUptoRow.holds Tryz.pinned (OpenSpec.upto objectReadsSpec)

/-- 'barbicanlaw5.ObjectBack', WHERE WHAT IT READS IS OF BULK AT MOST 1048576: true; the input reads as it did. -/
def objectBackUptoRow : OpenClaim := { program := "ytdkgeoadeljcpaagreat", sum := "ce46b12cf7203ea7f891483a156e3fb4f80a08f9f1f8a854f8a250a99dc6d493", func := "barbican/barbicanlaw5.ObjectBack", spec := "objectBack", unfollowed := true, recurses := true, apart := false, narrowed := true }
def ObjectBackUptoSaid : Prop := objectBackUptoRow.holds Tryz.pinned (OpenSpec.upto objectBackSpec)

/-- 'barbicanlaw5.ObjectDefs', WHERE WHAT IT READS IS OF BULK AT MOST 1048576: true; the input reads as it did. -/
def objectDefsUptoRow : OpenClaim := { program := "ytdkgeoadeljcpaagreat", sum := "ce46b12cf7203ea7f891483a156e3fb4f80a08f9f1f8a854f8a250a99dc6d493", func := "barbican/barbicanlaw5.ObjectDefs", spec := "objectDefs", unfollowed := true, recurses := true, apart := false, narrowed := true }
def ObjectDefsUptoSaid : Prop := objectDefsUptoRow.holds Tryz.pinned (OpenSpec.upto objectDefsSpec)

/-- 'barbicanlaw5.ObjectMany', WHERE WHAT IT READS IS OF BULK AT MOST 1048576: true; the input reads as it did. -/
def objectManyUptoRow : OpenClaim := { program := "ytdkgeoadeljcpaagreat", sum := "ce46b12cf7203ea7f891483a156e3fb4f80a08f9f1f8a854f8a250a99dc6d493", func := "barbican/barbicanlaw5.ObjectMany", spec := "objectMany", unfollowed := true, recurses := true, apart := false, narrowed := true }
def ObjectManyUptoSaid : Prop := objectManyUptoRow.holds Tryz.pinned (OpenSpec.upto objectManySpec)

end Rows
end Go.Proofs.YtdkgeoadeljcpaaGreat
