/-
  DERIVED. GIVEN WITH THE SEED: THE CARDS: each row of YtlllbgcfhfgaeaaDoorRows.lean that lists a variable, with what it lists TIED to the program's text (the seventh form; the later family's looks); each row that meets fmt, with fmt's text TOLD by the authors' own Lean function (tested against real Go, not proved from fmt's source: count such statements apart). THE CARD IS WHAT COUNTS. Prove the row's statement (the work); the ties are given (YtlllbgcfhfgaeaaDoorTie.lean); close each card by the builder's one call (the guide's Derived/Test/ToyasCard.lean, 'card_holds'). Laid BY PROGRAM, IN A SANDBOX (cutbox-door.mjs). By AI agents, Wed Nov 11 2026. No macro, syntax, notation, axiom, sorry.
-/
import Derived.Test.YtlllbgcfhfgaeaaDoorRows
import GoSem.ClaimSeven
namespace Go.Proofs.YtlllbgcfhfgaeaaDoor
namespace Rows

/-- THE TIED CARD OF 'barbicanlaw7.ScalarConst'. -/
def scalarConstCard : Claim7 := { stood := { row := scalarConstRow, standIns := [], harness := (true, "d3be37834a149cbf1812c319928bc56efe8423ada25c4b3c039826ee47bc29e4"), looks := false }, kinds := [], alts := [], laidByText := true, laidKinds := [.data], laidTests := true, laidLooks := .later }
def ScalarConstCardSaid : Prop := Claim7.holds Tryd.pinned (.plain (OpenSpec.ofChange scalarConstSpec)) scalarConstCard

/-- THE TIED CARD OF 'barbicanlaw7.ScalarMakes'. -/
def scalarMakesCard : Claim7 := { stood := { row := scalarMakesRow, standIns := [], harness := (true, "d3be37834a149cbf1812c319928bc56efe8423ada25c4b3c039826ee47bc29e4"), looks := false }, kinds := [], alts := [], laidByText := true, laidKinds := [.data], laidTests := true, laidLooks := .later }
def ScalarMakesCardSaid : Prop := Claim7.holds Tryd.pinned (.plain (OpenSpec.ofChange scalarMakesSpec)) scalarMakesCard

/-- THE TIED CARD OF 'barbicanlaw7.ScalarClosed'. -/
def scalarClosedCard : Claim7 := { stood := { row := scalarClosedRow, standIns := [], harness := (true, "d3be37834a149cbf1812c319928bc56efe8423ada25c4b3c039826ee47bc29e4"), looks := false }, kinds := [], alts := [], laidByText := true, laidKinds := [.data], laidTests := true, laidLooks := .later }
def ScalarClosedCardSaid : Prop := Claim7.holds Tryd.pinned (.plain (OpenSpec.ofChange scalarClosedSpec)) scalarClosedCard

/-- THE TIED CARD OF 'barbicanlaw7.ScalarTight'. -/
def scalarTightCard : Claim7 := { stood := { row := scalarTightRow, standIns := [], harness := (true, "d3be37834a149cbf1812c319928bc56efe8423ada25c4b3c039826ee47bc29e4"), looks := false }, kinds := [], alts := [], laidByText := true, laidKinds := [.data], laidTests := true, laidLooks := .later }
def ScalarTightCardSaid : Prop := Claim7.holds Tryd.pinned (.plain (OpenSpec.ofChange scalarTightSpec)) scalarTightCard

/-- THE TIED CARD OF 'barbicanlaw7.ScalarMasked'. -/
def scalarMaskedCard : Claim7 := { stood := { row := scalarMaskedRow, standIns := [], harness := (true, "d3be37834a149cbf1812c319928bc56efe8423ada25c4b3c039826ee47bc29e4"), looks := false }, kinds := [], alts := [], laidByText := true, laidKinds := [.data], laidTests := true, laidLooks := .later }
def ScalarMaskedCardSaid : Prop := Claim7.holds Tryd.pinned (.plain (OpenSpec.ofChange scalarMaskedSpec)) scalarMaskedCard

/-- THE TIED CARD OF 'barbicanlaw7.ScalarJoins'. -/
def scalarJoinsCard : Claim7 := { stood := { row := scalarJoinsRow, standIns := [], harness := (true, "d3be37834a149cbf1812c319928bc56efe8423ada25c4b3c039826ee47bc29e4"), looks := false }, kinds := [], alts := [], laidByText := true, laidKinds := [.data], laidTests := true, laidLooks := .later }
def ScalarJoinsCardSaid : Prop := Claim7.holds Tryd.pinned (.plain (OpenSpec.ofChange scalarJoinsSpec)) scalarJoinsCard

/-- THE TIED CARD OF 'barbicanlaw7.ScalarBranches'. -/
def scalarBranchesCard : Claim7 := { stood := { row := scalarBranchesRow, standIns := [], harness := (true, "d3be37834a149cbf1812c319928bc56efe8423ada25c4b3c039826ee47bc29e4"), looks := false }, kinds := [], alts := [], laidByText := true, laidKinds := [.data], laidTests := true, laidLooks := .later }
def ScalarBranchesCardSaid : Prop := Claim7.holds Tryd.pinned (.plain (OpenSpec.ofChange scalarBranchesSpec)) scalarBranchesCard

/-- THE SECOND FORM's CARD OF 'barbicanlaw7.ScalarConst'. -/
def scalarConstUptoCard : Claim7 := { stood := { row := scalarConstUptoRow, standIns := [], harness := (true, "d3be37834a149cbf1812c319928bc56efe8423ada25c4b3c039826ee47bc29e4"), looks := false }, kinds := [], alts := [], laidByText := true, laidKinds := [.data], laidTests := true, laidLooks := .later }
def ScalarConstUptoCardSaid : Prop := Claim7.holds Tryd.pinned (.plain (OpenSpec.upto scalarConstSpec)) scalarConstUptoCard

/-- THE SECOND FORM's CARD OF 'barbicanlaw7.ScalarMakes'. -/
def scalarMakesUptoCard : Claim7 := { stood := { row := scalarMakesUptoRow, standIns := [], harness := (true, "d3be37834a149cbf1812c319928bc56efe8423ada25c4b3c039826ee47bc29e4"), looks := false }, kinds := [], alts := [], laidByText := true, laidKinds := [.data], laidTests := true, laidLooks := .later }
def ScalarMakesUptoCardSaid : Prop := Claim7.holds Tryd.pinned (.plain (OpenSpec.upto scalarMakesSpec)) scalarMakesUptoCard

/-- THE SECOND FORM's CARD OF 'barbicanlaw7.ScalarClosed'. -/
def scalarClosedUptoCard : Claim7 := { stood := { row := scalarClosedUptoRow, standIns := [], harness := (true, "d3be37834a149cbf1812c319928bc56efe8423ada25c4b3c039826ee47bc29e4"), looks := false }, kinds := [], alts := [], laidByText := true, laidKinds := [.data], laidTests := true, laidLooks := .later }
def ScalarClosedUptoCardSaid : Prop := Claim7.holds Tryd.pinned (.plain (OpenSpec.upto scalarClosedSpec)) scalarClosedUptoCard

/-- THE SECOND FORM's CARD OF 'barbicanlaw7.ScalarTight'. -/
def scalarTightUptoCard : Claim7 := { stood := { row := scalarTightUptoRow, standIns := [], harness := (true, "d3be37834a149cbf1812c319928bc56efe8423ada25c4b3c039826ee47bc29e4"), looks := false }, kinds := [], alts := [], laidByText := true, laidKinds := [.data], laidTests := true, laidLooks := .later }
def ScalarTightUptoCardSaid : Prop := Claim7.holds Tryd.pinned (.plain (OpenSpec.upto scalarTightSpec)) scalarTightUptoCard

/-- THE SECOND FORM's CARD OF 'barbicanlaw7.ScalarMasked'. -/
def scalarMaskedUptoCard : Claim7 := { stood := { row := scalarMaskedUptoRow, standIns := [], harness := (true, "d3be37834a149cbf1812c319928bc56efe8423ada25c4b3c039826ee47bc29e4"), looks := false }, kinds := [], alts := [], laidByText := true, laidKinds := [.data], laidTests := true, laidLooks := .later }
def ScalarMaskedUptoCardSaid : Prop := Claim7.holds Tryd.pinned (.plain (OpenSpec.upto scalarMaskedSpec)) scalarMaskedUptoCard

/-- THE SECOND FORM's CARD OF 'barbicanlaw7.ScalarJoins'. -/
def scalarJoinsUptoCard : Claim7 := { stood := { row := scalarJoinsUptoRow, standIns := [], harness := (true, "d3be37834a149cbf1812c319928bc56efe8423ada25c4b3c039826ee47bc29e4"), looks := false }, kinds := [], alts := [], laidByText := true, laidKinds := [.data], laidTests := true, laidLooks := .later }
def ScalarJoinsUptoCardSaid : Prop := Claim7.holds Tryd.pinned (.plain (OpenSpec.upto scalarJoinsSpec)) scalarJoinsUptoCard

/-- THE SECOND FORM's CARD OF 'barbicanlaw7.ScalarBranches'. -/
def scalarBranchesUptoCard : Claim7 := { stood := { row := scalarBranchesUptoRow, standIns := [], harness := (true, "d3be37834a149cbf1812c319928bc56efe8423ada25c4b3c039826ee47bc29e4"), looks := false }, kinds := [], alts := [], laidByText := true, laidKinds := [.data], laidTests := true, laidLooks := .later }
def ScalarBranchesUptoCardSaid : Prop := Claim7.holds Tryd.pinned (.plain (OpenSpec.upto scalarBranchesSpec)) scalarBranchesUptoCard
end Rows
end Go.Proofs.YtlllbgcfhfgaeaaDoor
