/-
  Instructions: forms, what the small functions tell.
-/
import Derived.Test.YtpocmhfgnpgikaaGreatDoorSzAH
import Derived.KernelRfl
namespace Go.In
open Go Go.Sy Go.Sz
set_option linter.unusedVariables false
set_option linter.unusedSimpArgs false
@[reducible] def bytesT : Tys := .cons (.w .u8) .nil
@[reducible] def intsT : Tys := .cons (.i .i64) .nil
@[reducible] def boolsT : Tys := .cons .b .nil
@[reducible] def insT : Tys := .cons (.w .u8) (.cons (.w .u8) (.cons (.w .u8) (.cons (.i .i16) (.cons (.i .i32) .nil))))
@[reducible] def partsT : Tys := .cons (.i .i64) (.cons (.i .i64) .nil)
abbrev Bys := List (BitVec 8 × Unit)
abbrev Ints := List (Int × Unit)
abbrev Bools := List (Bool × Unit)
abbrev Ins := BitVec 8 × BitVec 8 × BitVec 8 × Int × Int × Unit
abbrev Slots := List Ins
abbrev SubP := Int × Int × Unit
abbrev Parts := List SubP
@[reducible] def insS : ShA := .p (.many [.w .u8, .w .u8, .w .u8, .i .i16, .i .i32])
@[reducible] def noIns : Ins := (0#8, 0#8, 0#8, 0, 0, ())
/-! ### Trees whose ends are truth values -/
def allB : Tree (AV × List Ob) → Bool
  | .ret (.p (.one (.v (.bool _))), []) => true
  | .ite _ t e => allB t && allB e
  | _ => false
def tbB (t : Tree (AV × List Ob)) : Bool := match t.run with
  | some (.p (.one (.v (.bool b))), _) => b
  | _ => false
theorem allB_run : ∀ {t : Tree (AV × List Ob)}, allB t = true → t.run = some (AV.b (tbB t), [])
  | .ite c t e, h => by
    simp only [allB, Bool.and_eq_true] at h
    cases c with
    | true => exact allB_run (t := t) h.1
    | false => exact allB_run (t := e) h.2
  | .ret (.p (.one (.v (.bool b))), []), _ => rfl
  | .fail, h => by cases h
def bval : Tree (AV × List Ob) → Bool
  | .ret (.p (.one (.v (.bool b))), _) => b
  | .ite c t e => bif c then bval t else bval e
  | _ => false
theorem tbB_bval : ∀ (t : Tree (AV × List Ob)), tbB t = bval t
  | .ite c t e => by
    cases c with
    | true => exact tbB_bval t
    | false => exact tbB_bval e
  | .ret (.p (.one (.v x)), l) => by cases x <;> rfl
  | .ret (.p (.one (.w _ _)), _) => rfl
  | .ret (.p (.one (.p _ _)), _) => rfl
  | .ret (.p (.one (.h _)), _) => rfl
  | .ret (.p (.one (.d _ _)), _) => rfl
  | .ret (.p (.one (.q _ _)), _) => rfl
  | .ret (.p (.one (.e _ _ _ _ _ _)), _) => rfl
  | .ret (.p (.one (.er _ _ _ _)), _) => rfl
  | .ret (.p (.one (.hs _ _ _ _ _)), _) => rfl
  | .ret (.p (.one (.s _ _ _ _ _)), _) => rfl
  | .ret (.p (.one (.clo _ _)), _) => rfl
  | .ret (.p (.many _), _) => rfl
  | .ret (.t _, _) => rfl
  | .fail => rfl
end Go.In
