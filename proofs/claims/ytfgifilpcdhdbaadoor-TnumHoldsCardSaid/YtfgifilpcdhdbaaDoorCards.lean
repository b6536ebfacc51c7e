/-
  DERIVED. GIVEN WITH THE SEED: THE CARDS: each row of YtfgifilpcdhdbaaDoorRows.lean that lists a variable, with what it lists TIED to the program's text (the seventh form; the later family's looks); each row that meets fmt, with fmt's text TOLD by the authors' own Lean function (tested against real Go, not proved from fmt's source: count such statements apart). THE CARD IS WHAT COUNTS. Prove the row's statement (the work); the ties are given (YtfgifilpcdhdbaaDoorTie.lean); close each card by the builder's one call (the guide's Derived/Test/ToyasCard.lean, 'card_holds'). Laid BY PROGRAM, IN A SANDBOX (cutbox-door.mjs). By AI agents, Wed Nov 11 2026. No macro, syntax, notation, axiom, sorry.
-/
import Derived.Test.YtfgifilpcdhdbaaDoorRows
import GoSem.ClaimSeven
namespace Go.Proofs.YtfgifilpcdhdbaaDoor
namespace Rows

/-- THE TIED CARD OF 'barbicanlaw6.TnumMul'. -/
def tnumMulCard : Claim7 := { stood := { row := tnumMulRow, standIns := [], harness := (true, "743c57864905ffe9d520c8cbfb08c262351c0b32f7b9319443bef8afd64fa4b2"), looks := false }, kinds := [], alts := [], laidByText := true, laidKinds := [.data], laidTests := true, laidLooks := .later }
def TnumMulCardSaid : Prop := Claim7.holds Tryd.pinned (.plain (OpenSpec.ofChange tnumMulSpec)) tnumMulCard

/-- THE TIED CARD OF 'barbicanlaw6.TnumHolds'. -/
def tnumHoldsCard : Claim7 := { stood := { row := tnumHoldsRow, standIns := [], harness := (true, "743c57864905ffe9d520c8cbfb08c262351c0b32f7b9319443bef8afd64fa4b2"), looks := false }, kinds := [], alts := [], laidByText := true, laidKinds := [.data], laidTests := true, laidLooks := .later }
def TnumHoldsCardSaid : Prop := Claim7.holds Tryd.pinned (.plain (OpenSpec.ofChange tnumHoldsSpec)) tnumHoldsCard

/-- THE SECOND FORM's CARD OF 'barbicanlaw6.TnumMul'. -/
def tnumMulUptoCard : Claim7 := { stood := { row := tnumMulUptoRow, standIns := [], harness := (true, "743c57864905ffe9d520c8cbfb08c262351c0b32f7b9319443bef8afd64fa4b2"), looks := false }, kinds := [], alts := [], laidByText := true, laidKinds := [.data], laidTests := true, laidLooks := .later }
def TnumMulUptoCardSaid : Prop := Claim7.holds Tryd.pinned (.plain (OpenSpec.upto tnumMulSpec)) tnumMulUptoCard

/-- THE SECOND FORM's CARD OF 'barbicanlaw6.TnumHolds'. -/
def tnumHoldsUptoCard : Claim7 := { stood := { row := tnumHoldsUptoRow, standIns := [], harness := (true, "743c57864905ffe9d520c8cbfb08c262351c0b32f7b9319443bef8afd64fa4b2"), looks := false }, kinds := [], alts := [], laidByText := true, laidKinds := [.data], laidTests := true, laidLooks := .later }
def TnumHoldsUptoCardSaid : Prop := Claim7.holds Tryd.pinned (.plain (OpenSpec.upto tnumHoldsSpec)) tnumHoldsUptoCard
end Rows
end Go.Proofs.YtfgifilpcdhdbaaDoor
