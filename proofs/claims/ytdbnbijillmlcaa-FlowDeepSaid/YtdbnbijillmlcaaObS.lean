/-
  Objects: the forms of their parts.
-/
import Derived.Test.YtdbnbijillmlcaaInX
namespace Go.Ob
open Go Go.Sy Go.Sz Go.In
set_option linter.unusedVariables false
set_option linter.unusedSimpArgs false

@[reducible] def memT : Tys := .cons .str (.cons (.i .i64) (.cons (.i .i64) .nil))
@[reducible] def typeT : Tys := .cons (.i .i64) (.cons .str (.cons (.i .i64) (.cons .b (.cons (.i .i64) (.cons (.i .i64) (.cons (.sl memT) .nil))))))
@[reducible] def mapT : Tys := .cons (.i .i64) (.cons (.i .i64) (.cons (.i .i64) (.cons (.i .i64) (.cons .b (.cons (.i .i64) .nil)))))
@[reducible] def progT : Tys := .cons .str (.cons (.sl insT) .nil)
abbrev MemD := ByteArray × Int × Int × Unit
abbrev TypeD := Int × ByteArray × Int × Bool × Int × Int × List MemD × Unit
abbrev MapD := Int × Int × Int × Int × Bool × Int × Unit
abbrev ProgD := ByteArray × Slots × Unit
abbrev Types := List TypeD
abbrev Maps := List MapD
abbrev Progs := List ProgD
end Go.Ob
