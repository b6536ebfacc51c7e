/-
  Ledgers: the forms of their parts.
-/
import Derived.Test.YtebimchjglckoaaSoS
namespace Go.So
open Go Go.Sy Go.Sz
set_option linter.unusedVariables false
set_option linter.unusedSimpArgs false
@[reducible] def evT : Tys := .cons .b (.cons (.i .i64) (.cons (.i .i64) .nil))
@[reducible] def heldT : Vt := .many (.cons (.i .i64) (.cons (.i .i64) .nil))
@[reducible] def stpT : Tys := .cons (.i .i64) (.cons (.i .i64) (.cons (.i .i64) (.cons (.i .i64) .nil)))
abbrev Stps := List (Int × Int × Int × Int × Unit)
abbrev Helds := List (Int × Int × Int × Unit)
abbrev HeldV := Int × Int × Unit
abbrev Evs := List (Bool × Int × Int × Unit)
def findH (i : Int) (m : Helds) : Option HeldV := findM (kt := .i .i64) (β := HeldV) i m
def setH (i : Int) (v : HeldV) (m : Helds) : Helds := setM (kt := .i .i64) (β := HeldV) i v m
def delH (i : Int) (m : Helds) : Helds := delM (kt := .i .i64) (β := HeldV) i m
/-- where a number stands last in a row, from a place on -/
def lastF (c : Int) : Ints → Int → Int → Int
  | [], _, t => t
  | x :: l, k, t => lastF c l (k + 1) (bif x.1 == c then k else t)
end Go.So
