/-
  DERIVED. GIVEN WITH THE SEED: THE CARDS: each row of YtpocmhfgnpgikaaGreatDoorRows.lean that lists a variable, with what it lists TIED to the program's text (the seventh form; the later family's looks); each row that meets fmt, with fmt's text TOLD by the authors' own Lean function (tested against real Go, not proved from fmt's source: count such statements apart). THE CARD IS WHAT COUNTS. Prove the row's statement (the work); the ties are given (YtpocmhfgnpgikaaGreatDoorTie.lean); close each card by the builder's one call (the guide's Derived/Test/ToyasCard.lean, 'card_holds'). Laid BY PROGRAM, IN A SANDBOX (cutbox-door.mjs). By AI agents, Wed Nov 11 2026. No macro, syntax, notation, axiom, sorry.
-/
import Derived.Test.YtpocmhfgnpgikaaGreatDoorRows
import GoSem.ClaimSeven
namespace Go.Proofs.YtpocmhfgnpgikaaGreatDoor
namespace Rows

/-- THE TIED CARD OF 'barbicanlaw23.GenSoup'. -/
def genSoupCard : Claim7 := { stood := { row := genSoupRow, standIns := [], harness := (true, "1a8e5746987a596b630eef32a2967e70843861a5ab72cce870239fb6295cd8a0"), looks := true }, kinds := [], alts := [], laidByText := true, laidKinds := [.data], laidTests := true, laidLooks := .later }
def GenSoupCardSaid : Prop := Claim7.holds Tryz.pinned (.plain (OpenSpec.ofChange genSoupSpec)) genSoupCard

/-- THE SECOND FORM's CARD OF 'barbicanlaw23.GenSoup'. -/
def genSoupUptoCard : Claim7 := { stood := { row := genSoupUptoRow, standIns := [], harness := (true, "1a8e5746987a596b630eef32a2967e70843861a5ab72cce870239fb6295cd8a0"), looks := true }, kinds := [], alts := [], laidByText := true, laidKinds := [.data], laidTests := true, laidLooks := .later }
def GenSoupUptoCardSaid : Prop := Claim7.holds Tryz.pinned (.plain (OpenSpec.upto genSoupSpec)) genSoupUptoCard
end Rows
end Go.Proofs.YtpocmhfgnpgikaaGreatDoor
