/-
  DERIVED. GIVEN WITH THE SEED: THE CARDS: each row of YtihjfikdpodffaaGreatDoorRows.lean that lists a variable, with what it lists TIED to the program's text (the seventh form; the later family's looks); each row that meets fmt, with fmt's text TOLD by the authors' own Lean function (tested against real Go, not proved from fmt's source: count such statements apart). THE CARD IS WHAT COUNTS. Prove the row's statement (the work); the ties are given (YtihjfikdpodffaaGreatDoorTie.lean); close each card by the builder's one call (the guide's Derived/Test/ToyasCard.lean, 'card_holds'). Laid BY PROGRAM, IN A SANDBOX (cutbox-door.mjs). By AI agents, Wed Nov 11 2026. No macro, syntax, notation, axiom, sorry.
-/
import Derived.Test.YtihjfikdpodffaaGreatDoorRows
import GoSem.ClaimSeven
namespace Go.Proofs.YtihjfikdpodffaaGreatDoor
namespace Rows

/-- THE TIED CARD OF 'barbicanlaw17.FamTail'. -/
def famTailCard : Claim7 := { stood := { row := famTailRow, standIns := [], harness := (true, "c1387fa617a9d69203395ca3292f673a191a2cc827cc13f69fd35c6148a29144"), looks := true }, kinds := [], alts := [], laidByText := true, laidKinds := [.data], laidTests := true, laidLooks := .later }
def FamTailCardSaid : Prop := Claim7.holds Tryz.pinned (.plain (OpenSpec.ofChange famTailSpec)) famTailCard

/-- THE SECOND FORM's CARD OF 'barbicanlaw17.FamTail'. -/
def famTailUptoCard : Claim7 := { stood := { row := famTailUptoRow, standIns := [], harness := (true, "c1387fa617a9d69203395ca3292f673a191a2cc827cc13f69fd35c6148a29144"), looks := true }, kinds := [], alts := [], laidByText := true, laidKinds := [.data], laidTests := true, laidLooks := .later }
def FamTailUptoCardSaid : Prop := Claim7.holds Tryz.pinned (.plain (OpenSpec.upto famTailSpec)) famTailUptoCard
end Rows
end Go.Proofs.YtihjfikdpodffaaGreatDoor
