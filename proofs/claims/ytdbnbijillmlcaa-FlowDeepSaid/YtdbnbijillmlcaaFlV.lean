/-
  Rows of subprograms that call each other.
-/
import Derived.Test.YtdbnbijillmlcaaFlS
namespace Go.Fl
open Go Go.Sy Go.Sz Go.In
set_option linter.unusedVariables false
set_option linter.unusedSimpArgs false

def callOn (k : Int) : Ins := (BitVec.ofNat 8 133, BitVec.ofNat 8 0, BitVec.ofNat 8 1, 0, k, ())
def exitI : Ins := (BitVec.ofNat 8 149, BitVec.ofNat 8 0, BitVec.ofNat 8 0, 0, 0, ())
def moveI : Ins := (BitVec.ofNat 8 183, BitVec.ofNat 8 0, BitVec.ofNat 8 0, 0, 0, ())
def callsN : Nat → Slots
  | 0 => []
  | n + 1 => callOn 1 :: exitI :: callsN n
/-- a row of n subprograms, each called by the one ahead of it -/
def deepL (n : Nat) : Slots := callsN (n - 1) ++ [moveI, exitI]
/-- the last one calls the one that begins at a slot -/
def cycL (n to : Nat) : Slots := callsN (n - 1) ++ [callOn ((to : Int) - (2 * n - 2 : Nat) - 1), exitI]
end Go.Fl
