/-
  DERIVED. GIVEN WITH THE SEED: THE CARDS: each row of YtlaaljiffcablaaGreatDoorRows.lean that lists a variable, with what it lists TIED to the program's text (the seventh form; the later family's looks); each row that meets fmt, with fmt's text TOLD by the authors' own Lean function (tested against real Go, not proved from fmt's source: count such statements apart). THE CARD IS WHAT COUNTS. Prove the row's statement (the work); the ties are given (YtlaaljiffcablaaGreatDoorTie.lean); close each card by the builder's one call (the guide's Derived/Test/ToyasCard.lean, 'card_holds'). Laid BY PROGRAM, IN A SANDBOX (cutbox-door.mjs). By AI agents, Wed Nov 11 2026. No macro, syntax, notation, axiom, sorry.
-/
import Derived.Test.YtlaaljiffcablaaGreatDoorRows
import GoSem.ClaimSeven
namespace Go.Proofs.YtlaaljiffcablaaGreatDoor
namespace Rows

/-- THE TIED CARD OF 'barbicanlaw7.ScalarDoes'. -/
def scalarDoesCard : Claim7 := { stood := { row := scalarDoesRow, standIns := [], harness := (true, "170a58fd3218bf7ad163ded1d671d7fdd2c95d263af1b5cad378de62433ef8ad"), looks := false }, kinds := [], alts := [], laidByText := true, laidKinds := [.data], laidTests := true, laidLooks := .later }
def ScalarDoesCardSaid : Prop := Claim7.holds Tryz.pinned (.plain (OpenSpec.ofChange scalarDoesSpec)) scalarDoesCard

/-- THE SECOND FORM's CARD OF 'barbicanlaw7.ScalarDoes'. -/
def scalarDoesUptoCard : Claim7 := { stood := { row := scalarDoesUptoRow, standIns := [], harness := (true, "170a58fd3218bf7ad163ded1d671d7fdd2c95d263af1b5cad378de62433ef8ad"), looks := false }, kinds := [], alts := [], laidByText := true, laidKinds := [.data], laidTests := true, laidLooks := .later }
def ScalarDoesUptoCardSaid : Prop := Claim7.holds Tryz.pinned (.plain (OpenSpec.upto scalarDoesSpec)) scalarDoesUptoCard
end Rows
end Go.Proofs.YtlaaljiffcablaaGreatDoor
