/-
  DERIVED. GIVEN WITH THE SEED: THE CARDS: each row of YtfbldjaepenfpaaGreatDoorRows.lean that lists a variable, with what it lists TIED to the program's text (the seventh form; the later family's looks); each row that meets fmt, with fmt's text TOLD by the authors' own Lean function (tested against real Go, not proved from fmt's source: count such statements apart). THE CARD IS WHAT COUNTS. Prove the row's statement (the work); the ties are given (YtfbldjaepenfpaaGreatDoorTie.lean); close each card by the builder's one call (the guide's Derived/Test/ToyasCard.lean, 'card_holds'). Laid BY PROGRAM, IN A SANDBOX (cutbox-door.mjs). By AI agents, Wed Nov 11 2026. No macro, syntax, notation, axiom, sorry.
-/
import Derived.Test.YtfbldjaepenfpaaGreatDoorRows
import GoSem.ClaimSeven
namespace Go.Proofs.YtfbldjaepenfpaaGreatDoor
namespace Rows

/-- THE TIED CARD OF 'barbicanlaw17.FamCalls'. -/
def famCallsCard : Claim7 := { stood := { row := famCallsRow, standIns := [], harness := (true, "c00d0f15ae0244c07e216931286c6ab47b7ed2b01dadc7116c8bf94826a2a232"), looks := true }, kinds := [], alts := [], laidByText := true, laidKinds := [.data], laidTests := true, laidLooks := .later }
def FamCallsCardSaid : Prop := Claim7.holds Tryz.pinned (.plain (OpenSpec.ofChange famCallsSpec)) famCallsCard

/-- THE TIED CARD OF 'barbicanlaw17.FamSocket'. -/
def famSocketCard : Claim7 := { stood := { row := famSocketRow, standIns := [], harness := (true, "c00d0f15ae0244c07e216931286c6ab47b7ed2b01dadc7116c8bf94826a2a232"), looks := true }, kinds := [], alts := [], laidByText := true, laidKinds := [.data], laidTests := true, laidLooks := .later }
def FamSocketCardSaid : Prop := Claim7.holds Tryz.pinned (.plain (OpenSpec.ofChange famSocketSpec)) famSocketCard

/-- THE TIED CARD OF 'barbicanlaw17.FamTimer'. -/
def famTimerCard : Claim7 := { stood := { row := famTimerRow, standIns := [], harness := (true, "c00d0f15ae0244c07e216931286c6ab47b7ed2b01dadc7116c8bf94826a2a232"), looks := true }, kinds := [], alts := [], laidByText := true, laidKinds := [.data], laidTests := true, laidLooks := .later }
def FamTimerCardSaid : Prop := Claim7.holds Tryz.pinned (.plain (OpenSpec.ofChange famTimerSpec)) famTimerCard

/-- THE TIED CARD OF 'barbicanlaw17.FamWrite'. -/
def famWriteCard : Claim7 := { stood := { row := famWriteRow, standIns := [], harness := (true, "c00d0f15ae0244c07e216931286c6ab47b7ed2b01dadc7116c8bf94826a2a232"), looks := true }, kinds := [], alts := [], laidByText := true, laidKinds := [.data], laidTests := true, laidLooks := .later }
def FamWriteCardSaid : Prop := Claim7.holds Tryz.pinned (.plain (OpenSpec.ofChange famWriteSpec)) famWriteCard

/-- THE SECOND FORM's CARD OF 'barbicanlaw17.FamCalls'. -/
def famCallsUptoCard : Claim7 := { stood := { row := famCallsUptoRow, standIns := [], harness := (true, "c00d0f15ae0244c07e216931286c6ab47b7ed2b01dadc7116c8bf94826a2a232"), looks := true }, kinds := [], alts := [], laidByText := true, laidKinds := [.data], laidTests := true, laidLooks := .later }
def FamCallsUptoCardSaid : Prop := Claim7.holds Tryz.pinned (.plain (OpenSpec.upto famCallsSpec)) famCallsUptoCard

/-- THE SECOND FORM's CARD OF 'barbicanlaw17.FamSocket'. -/
def famSocketUptoCard : Claim7 := { stood := { row := famSocketUptoRow, standIns := [], harness := (true, "c00d0f15ae0244c07e216931286c6ab47b7ed2b01dadc7116c8bf94826a2a232"), looks := true }, kinds := [], alts := [], laidByText := true, laidKinds := [.data], laidTests := true, laidLooks := .later }
def FamSocketUptoCardSaid : Prop := Claim7.holds Tryz.pinned (.plain (OpenSpec.upto famSocketSpec)) famSocketUptoCard

/-- THE SECOND FORM's CARD OF 'barbicanlaw17.FamTimer'. -/
def famTimerUptoCard : Claim7 := { stood := { row := famTimerUptoRow, standIns := [], harness := (true, "c00d0f15ae0244c07e216931286c6ab47b7ed2b01dadc7116c8bf94826a2a232"), looks := true }, kinds := [], alts := [], laidByText := true, laidKinds := [.data], laidTests := true, laidLooks := .later }
def FamTimerUptoCardSaid : Prop := Claim7.holds Tryz.pinned (.plain (OpenSpec.upto famTimerSpec)) famTimerUptoCard

/-- THE SECOND FORM's CARD OF 'barbicanlaw17.FamWrite'. -/
def famWriteUptoCard : Claim7 := { stood := { row := famWriteUptoRow, standIns := [], harness := (true, "c00d0f15ae0244c07e216931286c6ab47b7ed2b01dadc7116c8bf94826a2a232"), looks := true }, kinds := [], alts := [], laidByText := true, laidKinds := [.data], laidTests := true, laidLooks := .later }
def FamWriteUptoCardSaid : Prop := Claim7.holds Tryz.pinned (.plain (OpenSpec.upto famWriteSpec)) famWriteUptoCard
end Rows
end Go.Proofs.YtfbldjaepenfpaaGreatDoor
