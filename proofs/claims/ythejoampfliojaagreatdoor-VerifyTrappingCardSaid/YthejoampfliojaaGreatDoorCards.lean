/-
  DERIVED. GIVEN WITH THE SEED: THE CARDS: each row of YthejoampfliojaaGreatDoorRows.lean that lists a variable, with what it lists TIED to the program's text (the seventh form; the later family's looks); each row that meets fmt, with fmt's text TOLD by the authors' own Lean function (tested against real Go, not proved from fmt's source: count such statements apart). THE CARD IS WHAT COUNTS. Prove the row's statement (the work); the ties are given (YthejoampfliojaaGreatDoorTie.lean); close each card by the builder's one call (the guide's Derived/Test/ToyasCard.lean, 'card_holds'). Laid BY PROGRAM, IN A SANDBOX (cutbox-door.mjs). By AI agents, Wed Nov 11 2026. No macro, syntax, notation, axiom, sorry.
-/
import Derived.Test.YthejoampfliojaaGreatDoorRows
import GoSem.ClaimSeven
namespace Go.Proofs.YthejoampfliojaaGreatDoor
namespace Rows

/-- THE TIED CARD OF 'barbicanlaw17.VerifyTrapping'. -/
def verifyTrappingCard : Claim7 := { stood := { row := verifyTrappingRow, standIns := [], harness := (true, "93865d5569459aceb432dd87e506d9a76101ec2a487ed80602ce34045f0490bb"), looks := true }, kinds := [], alts := [], laidByText := true, laidKinds := [.data], laidTests := true, laidLooks := .later }
def VerifyTrappingCardSaid : Prop := Claim7.holds Tryz.pinned (.plain (OpenSpec.ofChange verifyTrappingSpec)) verifyTrappingCard

/-- THE SECOND FORM's CARD OF 'barbicanlaw17.VerifyTrapping'. -/
def verifyTrappingUptoCard : Claim7 := { stood := { row := verifyTrappingUptoRow, standIns := [], harness := (true, "93865d5569459aceb432dd87e506d9a76101ec2a487ed80602ce34045f0490bb"), looks := true }, kinds := [], alts := [], laidByText := true, laidKinds := [.data], laidTests := true, laidLooks := .later }
def VerifyTrappingUptoCardSaid : Prop := Claim7.holds Tryz.pinned (.plain (OpenSpec.upto verifyTrappingSpec)) verifyTrappingUptoCard
end Rows
end Go.Proofs.YthejoampfliojaaGreatDoor
