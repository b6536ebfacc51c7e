/-
  Helpers as data: by number, by name, all of them.
-/
import Derived.Test.YtoobnoghlebamaaPrS
import Derived.KernelRfl
namespace Go.Pr
open Go Go.Sy Go.Sz
set_option linter.unusedVariables false
set_option linter.unusedSimpArgs false

@[reducible] def prTys : Tys := .cons .str (.cons (.i .i64) (.cons (.i .i64) (.cons (.i .i64) (.cons (.i .i64) (.cons (.i .i64) (.cons (.i .i64) (.cons (.i .i64) (.cons .b (.cons .b .nil)))))))))
abbrev PRow := ByteArray × Int × Int × Int × Int × Int × Int × Int × Bool × Bool × Unit
def rowC (x : PRow) : List Cell := prC x.1 x.2.1 x.2.2.1 x.2.2.2.1 x.2.2.2.2.1 x.2.2.2.2.2.1 x.2.2.2.2.2.2.1 x.2.2.2.2.2.2.2.1 x.2.2.2.2.2.2.2.2.1 x.2.2.2.2.2.2.2.2.2.1
def row0 : PRow := (⟨#[]⟩, 0, 0, 0, 0, 0, 0, 0, false, false, ())
def rowsP : List PRow := [
  (⟨#[]⟩, 0, 0, 0, 0, 0, 0, 0, false, false, ()),
  (⟨#[109, 97, 112, 95, 108, 111, 111, 107, 117, 112]⟩, 2, 3, 0, 0, 0, 1, 6, false, false, ()),
  (⟨#[109, 97, 112, 95, 117, 112, 100, 97, 116, 101]⟩, 2, 3, 4, 1, 0, 0, 6, false, false, ()),
  (⟨#[109, 97, 112, 95, 100, 101, 108, 101, 116, 101]⟩, 2, 3, 0, 0, 0, 0, 6, false, false, ()),
  (⟨#[99, 108, 111, 99, 107]⟩, 0, 0, 0, 0, 0, 0, 0, false, false, ()),
  (⟨#[114, 97, 110, 100, 111, 109]⟩, 0, 0, 0, 0, 0, 0, 0, false, false, ()),
  (⟨#[116, 97, 105, 108, 95, 99, 97, 108, 108]⟩, 8, 2, 1, 0, 0, 0, 8, false, false, ()),
  (⟨#[108, 111, 111, 112]⟩, 1, 9, 17, 0, 0, 0, 0, false, false, ()),
  (⟨#[114, 105, 110, 103, 95, 111, 117, 116, 112, 117, 116]⟩, 2, 5, 7, 0, 0, 0, 16, false, false, ()),
  (⟨#[114, 105, 110, 103, 95, 114, 101, 115, 101, 114, 118, 101]⟩, 2, 1, 0, 0, 0, 2, 16, true, false, ()),
  (⟨#[114, 105, 110, 103, 95, 115, 117, 98, 109, 105, 116]⟩, 10, 0, 0, 0, 0, 0, 0, false, true, ()),
  (⟨#[114, 105, 110, 103, 95, 100, 105, 115, 99, 97, 114, 100]⟩, 10, 0, 0, 0, 0, 0, 0, false, true, ()),
  (⟨#[114, 105, 110, 103, 95, 113, 117, 101, 114, 121]⟩, 2, 0, 0, 0, 0, 0, 16, false, false, ()),
  (⟨#[115, 111, 99, 107, 95, 108, 111, 111, 107, 117, 112]⟩, 8, 5, 7, 0, 0, 3, 0, true, false, ()),
  (⟨#[115, 111, 99, 107, 95, 114, 101, 108, 101, 97, 115, 101]⟩, 11, 0, 0, 0, 0, 0, 0, false, true, ()),
  (⟨#[116, 105, 109, 101, 114, 95, 105, 110, 105, 116]⟩, 12, 2, 0, 0, 0, 0, 6, false, false, ()),
  (⟨#[116, 105, 109, 101, 114, 95, 99, 97, 108, 108, 98, 97, 99, 107]⟩, 12, 9, 0, 0, 0, 0, 0, false, false, ()),
  (⟨#[116, 105, 109, 101, 114, 95, 115, 116, 97, 114, 116]⟩, 12, 1, 0, 0, 0, 0, 0, false, false, ()),
  (⟨#[116, 105, 109, 101, 114, 95, 99, 97, 110, 99, 101, 108]⟩, 12, 0, 0, 0, 0, 0, 0, false, false, ()),
  (⟨#[100, 121, 110, 95, 114, 101, 115, 101, 114, 118, 101]⟩, 2, 1, 13, 0, 0, 0, 16, true, false, ()),
  (⟨#[100, 121, 110, 95, 115, 117, 98, 109, 105, 116]⟩, 14, 0, 0, 0, 0, 0, 0, false, true, ()),
  (⟨#[100, 121, 110, 95, 100, 105, 115, 99, 97, 114, 100]⟩, 14, 0, 0, 0, 0, 0, 0, false, true, ()),
  (⟨#[100, 121, 110, 95, 109, 101, 109]⟩, 5, 7, 13, 0, 0, 0, 0, false, false, ()),
  (⟨#[100, 121, 110, 95, 114, 101, 97, 100]⟩, 6, 7, 14, 1, 0, 0, 0, false, false, ()),
  (⟨#[100, 121, 110, 95, 119, 114, 105, 116, 101]⟩, 14, 1, 5, 7, 0, 0, 0, false, false, ()),
  (⟨#[100, 121, 110, 95, 100, 97, 116, 97]⟩, 14, 1, 1, 0, 0, 4, 0, false, false, ()),
  (⟨#[105, 116, 101, 114, 95, 110, 101, 119]⟩, 15, 1, 1, 0, 0, 0, 0, true, false, ()),
  (⟨#[105, 116, 101, 114, 95, 110, 101, 120, 116]⟩, 16, 0, 0, 0, 0, 5, 0, false, false, ()),
  (⟨#[105, 116, 101, 114, 95, 100, 114, 111, 112]⟩, 16, 0, 0, 0, 0, 0, 0, false, true, ())]
def rowAt (n : Int) : PRow := bif inR n then rowsP.getD n.toNat row0 else row0
def errAt (n : Int) : Int := bif inR n then 0 else 130
def ofX (n : Int) : AV := .t [.many (rowC (rowAt n)), .one (.v (.int .i64 (errAt n)))]
def names : List (ByteArray × Int) := [
  (⟨#[109, 97, 112, 95, 108, 111, 111, 107, 117, 112]⟩, 1),
  (⟨#[109, 97, 112, 95, 117, 112, 100, 97, 116, 101]⟩, 2),
  (⟨#[109, 97, 112, 95, 100, 101, 108, 101, 116, 101]⟩, 3),
  (⟨#[99, 108, 111, 99, 107]⟩, 4),
  (⟨#[114, 97, 110, 100, 111, 109]⟩, 5),
  (⟨#[116, 97, 105, 108, 95, 99, 97, 108, 108]⟩, 6),
  (⟨#[108, 111, 111, 112]⟩, 7),
  (⟨#[114, 105, 110, 103, 95, 111, 117, 116, 112, 117, 116]⟩, 8),
  (⟨#[114, 105, 110, 103, 95, 114, 101, 115, 101, 114, 118, 101]⟩, 9),
  (⟨#[114, 105, 110, 103, 95, 115, 117, 98, 109, 105, 116]⟩, 10),
  (⟨#[114, 105, 110, 103, 95, 100, 105, 115, 99, 97, 114, 100]⟩, 11),
  (⟨#[114, 105, 110, 103, 95, 113, 117, 101, 114, 121]⟩, 12),
  (⟨#[115, 111, 99, 107, 95, 108, 111, 111, 107, 117, 112]⟩, 13),
  (⟨#[115, 111, 99, 107, 95, 114, 101, 108, 101, 97, 115, 101]⟩, 14),
  (⟨#[116, 105, 109, 101, 114, 95, 105, 110, 105, 116]⟩, 15),
  (⟨#[116, 105, 109, 101, 114, 95, 99, 97, 108, 108, 98, 97, 99, 107]⟩, 16),
  (⟨#[116, 105, 109, 101, 114, 95, 115, 116, 97, 114, 116]⟩, 17),
  (⟨#[116, 105, 109, 101, 114, 95, 99, 97, 110, 99, 101, 108]⟩, 18),
  (⟨#[100, 121, 110, 95, 114, 101, 115, 101, 114, 118, 101]⟩, 19),
  (⟨#[100, 121, 110, 95, 115, 117, 98, 109, 105, 116]⟩, 20),
  (⟨#[100, 121, 110, 95, 100, 105, 115, 99, 97, 114, 100]⟩, 21),
  (⟨#[100, 121, 110, 95, 109, 101, 109]⟩, 22),
  (⟨#[100, 121, 110, 95, 114, 101, 97, 100]⟩, 23),
  (⟨#[100, 121, 110, 95, 119, 114, 105, 116, 101]⟩, 24),
  (⟨#[100, 121, 110, 95, 100, 97, 116, 97]⟩, 25),
  (⟨#[105, 116, 101, 114, 95, 110, 101, 119]⟩, 26),
  (⟨#[105, 116, 101, 114, 95, 110, 101, 120, 116]⟩, 27),
  (⟨#[105, 116, 101, 114, 95, 100, 114, 111, 112]⟩, 28)]
def findO (s : ByteArray) : Option Int := findM (kt := .str) s names
def findN (s : ByteArray) : Int := bif (findO s).isSome then (findO s).getD 0 else 0
def findE (s : ByteArray) : Int := bif (findO s).isSome then 0 else 130
def findA (s : ByteArray) : AV := .t [.one (.v (.int .i64 (findN s))), .one (.v (.int .i64 (findE s)))]
def chainR (s : ByteArray) : List (ByteArray × Int) → Option (AV × List Ob)
  | [] => some (.t [.one (.v (.int .i64 0)), .one (.v (.int .i64 130))], [])
  | (k, i) :: l => bif k == s then some (.t [.one (.v (.int .i64 i)), .one (.v (.int .i64 0))], []) else chainR s l
theorem toList_beq (a b : ByteArray) : (a.toList == b.toList) = (a == b) := by
  rw [ByteArray.toList_eq, ByteArray.toList_eq]
  have h : a.data.toList = b.data.toList ↔ a = b := by
    constructor
    · intro h
      cases a; cases b
      simp only at h
      rw [Array.toList_inj.1 h]
    · intro h; rw [h]
  cases h1 : a == b with
  | true => rw [(Go.MapKept.bytes_beq a b).1 h1]; simp
  | false =>
    cases h2 : a.data.toList == b.data.toList with
    | false => rfl
    | true =>
      have := h.1 (eq_of_beq h2)
      rw [(Go.MapKept.bytes_beq a b).2 this] at h1; cases h1
def chainI (s : ByteArray) : List Int → Option (AV × List Ob)
  | [] => some (.t [.one (.v (.int .i64 0)), .one (.v (.int .i64 130))], [])
  | i :: l => bif (rowAt i).1.toList == s.toList then some (.t [.one (.v (.int .i64 i)), .one (.v (.int .i64 0))], []) else chainI s l
def nums : List Int := [1, 2, 3, 4, 5, 6, 7, 8, 9, 10, 11, 12, 13, 14, 15, 16, 17, 18, 19, 20, 21, 22, 23, 24, 25, 26, 27, 28]
theorem chainI_R (s : ByteArray) : ∀ l : List Int, chainI s l = chainR s (l.map fun i => ((rowAt i).1, i))
  | [] => rfl
  | i :: l => by simp only [chainI, List.map_cons, chainR, chainI_R s l, toList_beq]
theorem nums_names : (nums.map fun i => ((rowAt i).1, i)) = names := by kernel_rfl
theorem beq_comm' (a b : ByteArray) : (a == b) = (b == a) := by
  cases h : a == b with
  | true => have := (Go.MapKept.bytes_beq a b).1 h; subst this; exact h.symm
  | false =>
    cases h' : b == a with
    | false => rfl
    | true => have := (Go.MapKept.bytes_beq b a).1 h'; subst this; rw [h] at h'; cases h'
theorem chain_find (s : ByteArray) : ∀ l : List (ByteArray × Int), chainR s l = some (.t [.one (.v (.int .i64 (bif (findM (kt := .str) s l).isSome then (findM (kt := .str) s l).getD 0 else 0))), .one (.v (.int .i64 (bif (findM (kt := .str) s l).isSome then 0 else 130)))], [])
  | [] => rfl
  | (k, i) :: l => by
    simp only [chainR, findM, eqK]
    rw [beq_comm' k s]
    cases h : s == k with
    | true => rfl
    | false => exact chain_find s l
end Go.Pr
