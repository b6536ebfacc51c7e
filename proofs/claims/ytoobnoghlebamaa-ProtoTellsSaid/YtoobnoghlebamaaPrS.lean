/-
  Helpers as data: what the functions of the package tell.
-/
import Derived.Test.YtoobnoghlebamaaSzAG
namespace Go.Pr
open Go Go.Sy Go.Sz
set_option linter.unusedVariables false
set_option linter.unusedSimpArgs false

@[reducible] def prS : ShA := .p (.many [.s, .i .i64, .i .i64, .i .i64, .i .i64, .i .i64, .i .i64, .i .i64, .b, .b])
@[reducible] def iS : ShA := .c (.i .i64)
@[reducible] def ints : Tys := .cons (.i .i64) .nil
abbrev Ints := List (Int × Unit)
/-- what a place tells behind a copy -/
def at5 (l : Ints) (k : Nat) : Int := bif Nat.blt k l.length then (l.getD k (0, ())).1 else 0
def prC (s : ByteArray) (a b c d e r m : Int) (x y : Bool) : List Cell :=
  [.v (.string s), .v (.int .i64 a), .v (.int .i64 b), .v (.int .i64 c), .v (.int .i64 d), .v (.int .i64 e), .v (.int .i64 r), .v (.int .i64 m), .v (.bool x), .v (.bool y)]
def entC (s : ByteArray) (r m : Int) (l : List Int) (x y : Bool) : List Cell := prC s (l.getD 0 0) (l.getD 1 0) (l.getD 2 0) (l.getD 3 0) (l.getD 4 0) r m x y
def tab : List (List Cell) := [
  entC ⟨#[]⟩ 0 0 [] false false,
  entC ⟨#[109, 97, 112, 95, 108, 111, 111, 107, 117, 112]⟩ 1 6 [2, 3] false false,
  entC ⟨#[109, 97, 112, 95, 117, 112, 100, 97, 116, 101]⟩ 0 6 [2, 3, 4, 1] false false,
  entC ⟨#[109, 97, 112, 95, 100, 101, 108, 101, 116, 101]⟩ 0 6 [2, 3] false false,
  entC ⟨#[99, 108, 111, 99, 107]⟩ 0 0 [] false false,
  entC ⟨#[114, 97, 110, 100, 111, 109]⟩ 0 0 [] false false,
  entC ⟨#[116, 97, 105, 108, 95, 99, 97, 108, 108]⟩ 0 8 [8, 2, 1] false false,
  entC ⟨#[108, 111, 111, 112]⟩ 0 0 [1, 9, 17] false false,
  entC ⟨#[114, 105, 110, 103, 95, 111, 117, 116, 112, 117, 116]⟩ 0 16 [2, 5, 7] false false,
  entC ⟨#[114, 105, 110, 103, 95, 114, 101, 115, 101, 114, 118, 101]⟩ 2 16 [2, 1] true false,
  entC ⟨#[114, 105, 110, 103, 95, 115, 117, 98, 109, 105, 116]⟩ 0 0 [10] false true,
  entC ⟨#[114, 105, 110, 103, 95, 100, 105, 115, 99, 97, 114, 100]⟩ 0 0 [10] false true,
  entC ⟨#[114, 105, 110, 103, 95, 113, 117, 101, 114, 121]⟩ 0 16 [2] false false,
  entC ⟨#[115, 111, 99, 107, 95, 108, 111, 111, 107, 117, 112]⟩ 3 0 [8, 5, 7] true false,
  entC ⟨#[115, 111, 99, 107, 95, 114, 101, 108, 101, 97, 115, 101]⟩ 0 0 [11] false true,
  entC ⟨#[116, 105, 109, 101, 114, 95, 105, 110, 105, 116]⟩ 0 6 [12, 2] false false,
  entC ⟨#[116, 105, 109, 101, 114, 95, 99, 97, 108, 108, 98, 97, 99, 107]⟩ 0 0 [12, 9] false false,
  entC ⟨#[116, 105, 109, 101, 114, 95, 115, 116, 97, 114, 116]⟩ 0 0 [12, 1] false false,
  entC ⟨#[116, 105, 109, 101, 114, 95, 99, 97, 110, 99, 101, 108]⟩ 0 0 [12] false false,
  entC ⟨#[100, 121, 110, 95, 114, 101, 115, 101, 114, 118, 101]⟩ 0 16 [2, 1, 13] true false,
  entC ⟨#[100, 121, 110, 95, 115, 117, 98, 109, 105, 116]⟩ 0 0 [14] false true,
  entC ⟨#[100, 121, 110, 95, 100, 105, 115, 99, 97, 114, 100]⟩ 0 0 [14] false true,
  entC ⟨#[100, 121, 110, 95, 109, 101, 109]⟩ 0 0 [5, 7, 13] false false,
  entC ⟨#[100, 121, 110, 95, 114, 101, 97, 100]⟩ 0 0 [6, 7, 14, 1] false false,
  entC ⟨#[100, 121, 110, 95, 119, 114, 105, 116, 101]⟩ 0 0 [14, 1, 5, 7] false false,
  entC ⟨#[100, 121, 110, 95, 100, 97, 116, 97]⟩ 4 0 [14, 1, 1] false false,
  entC ⟨#[105, 116, 101, 114, 95, 110, 101, 119]⟩ 0 0 [15, 1, 1] true false,
  entC ⟨#[105, 116, 101, 114, 95, 110, 101, 120, 116]⟩ 5 0 [16] false false,
  entC ⟨#[105, 116, 101, 114, 95, 100, 114, 111, 112]⟩ 0 0 [16] false true]
def flat : List (List Cell) → List Cell
  | [] => []
  | l :: r => l ++ flat r
def inR (n : Int) : Bool := decide (1 ≤ n) && decide (n ≤ 28)
def ofA (n : Int) : AV := bif inR n then .t [.many (tab.getD n.toNat []), .one (.v (.int .i64 0))] else .t [.many (tab.getD 0 []), .one (.v (.int .i64 130))]
end Go.Pr
