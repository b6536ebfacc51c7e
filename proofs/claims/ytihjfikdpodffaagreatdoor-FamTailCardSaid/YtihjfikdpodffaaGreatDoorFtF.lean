/-
  The law FamTail: a tail call is taken by the verifier; the machine goes on with the program that is there, or falls through.
-/
import Derived.Test.YtihjfikdpodffaaGreatDoorTie
import Derived.Test.YtihjfikdpodffaaGreatDoorCards
import Derived.SevenTiedAt
import Derived.Lib.TrailingZeros
import Derived.Test.YtihjfikdpodffaaGreatDoorFtH
import Derived.Test.YtihjfikdpodffaaGreatDoorFtM
import Derived.Test.YtihjfikdpodffaaGreatDoorFtN
namespace Go.Proofs.YtihjfikdpodffaaGreatDoor.ft
open Go Go.Proofs.YtihjfikdpodffaaGreatDoor
set_option linter.unusedVariables false
set_option linter.unusedSimpArgs false
set_option maxRecDepth 100000

theorem holds : Rows.FamTailCardSaid :=
  Claim7.holds_tied_plain_at .later [] [.data] true (true, "c1387fa617a9d69203395ca3292f673a191a2cc827cc13f69fd35c6148a29144") true
    over (fun _ h => by cases h) wf_t (fun _ h => by cases h) famTail_row_tie rfl ⟨rfl, rfl⟩ main_t rfl
    (fun f fn hf hfn => by
      obtain rfl : f = 3 := Option.some.inj (named_t.symm.trans hf) |>.symm
      obtain rfl : fn = Tryz.f3 := (Option.some.inj (Tryz.func3.symm.trans hfn)).symm
      exact ⟨looks_t, fun j t ht => wants_t t (Array.mem_toList_iff.2 (Array.mem_of_getElem? ht))⟩)
    (goes_false goes_none rfl)
end Go.Proofs.YtihjfikdpodffaaGreatDoor.ft
