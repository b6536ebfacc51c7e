/-
  The library's table as its variable is laid: from the row's premise to what is known; a world that has it.
-/
import Derived.Test.YtlaaljiffcablaaGreatDoorKn
import Derived.Test.YtlaaljiffcablaaGreatDoorTie
import Derived.SevenTiedAt
namespace Go.Proofs.YtlaaljiffcablaaGreatDoor
open Go Go.Sy Go.Tn
set_option maxRecDepth 100000

theorem tab_of_laid {W : World} (h : laidMetH Tryz.prog [("math/bits.deBruijn64tab", Rows.laid_math_bits_deBruijn64tab)] W) : Kn.ok W := by
  have h' : laidMet Tryz.prog [("math/bits.deBruijn64tab", Rows.laid_math_bits_deBruijn64tab)] W := h
  obtain ⟨ps, ⟨g, t, cs, fuel, p, q, h1, h2, h3, h4, _⟩, _⟩ := h'
  have hg : Tryz.prog.globalNamed "math/bits.deBruijn64tab" = some 0 := by kernel_rfl
  obtain rfl : g = 0 := Option.some.inj (h1.symm.trans hg)
  have ht : (Tryz.prog.globals[0]?).map (·.type) = some 113 := by kernel_rfl
  obtain rfl : t = 113 := Option.some.inj (h2.symm.trans ht)
  obtain ⟨xs, m, _, hx, hlen, hxl, hi⟩ := DataW.trod_array Tryz.underlying113 h4
  intro j hj
  rw [tab_len] at hj
  rw [World.var?_cell hg h3 j]
  have hc : Tryz.prog.cellsOf 5 = 1 := by kernel_rfl
  have h5 := hi j hj
  rw [hc, Nat.mul_one] at h5
  have hlt : j < xs.length := by omega
  rw [List.getElem?_eq_getElem hlt] at h5
  obtain ⟨n, e1, e2, _⟩ := DataW.trod_int Tryz.underlying5 h5
  have e3 : cs[j]? = some (.int .u8 n) := by
    have e4 : (cs.toList.drop j)[0]? = some (.int .u8 n) := by
      have e5 : ((cs.toList.drop j).take 1)[0]? = (cs.toList.drop j)[0]? := by rw [List.getElem?_take]; rfl
      rw [← e5, e1]; rfl
    rw [List.getElem?_drop, Nat.add_zero, Array.getElem?_toList] at e4
    exact e4
  rw [e3]
  have e6 : (xs.map (fun x => x.1))[j]? = some (DataW.lit (Lit.int .u8 n)) := by rw [List.getElem?_map, List.getElem?_eq_getElem hlt, e2]; rfl
  have e7 : Rows.laid_math_bits_deBruijn64tab = DataW.agg (xs.map (fun x => x.1)) := congrArg Prod.fst hx
  have e8 : ∀ k, k < 64 → ∀ l : List (DataW Unit), (Rows.laid_math_bits_deBruijn64tab : DataW Unit) = .agg l → l[k]? = some (.lit (.int .u8 ((Lib.deBruijn64tab.getD k 0 : Nat) : Int))) := by
    intro k hk l hl
    have : (Rows.laid_math_bits_deBruijn64tab : DataW Unit) = .agg (Lib.deBruijn64tab.map fun n : Nat => .lit (.int .u8 (n : Int))) := by kernel_rfl
    rw [this] at hl
    injection hl with hl
    rw [← hl, List.getElem?_map]
    have hk' : k < Lib.deBruijn64tab.length := by rw [tab_len]; exact hk
    rw [List.getD_eq_getElem?_getD, List.getElem?_eq_getElem hk']
    rfl
  have e9 := e8 j hj _ e7
  rw [e6] at e9
  injection e9 with e9
  injection e9 with e9
  injection e9 with _ e9
  rw [e9]

noncomputable def laidWorld (os : Os) : World :=
  let w0 := World.holding Tryz.prog os ⟨#[], #[], []⟩
  { w0 with heap := w0.heap.modify 0 fun
      | .cells _ t frozen => .cells (Lib.deBruijn64tab.map fun n : Nat => Value.int .u8 (n : Int)).toArray t frozen
      | o => o }
theorem laidWorld_met (os : Os) (args : Array Value) : laidMetH Tryz.prog [("math/bits.deBruijn64tab", Rows.laid_math_bits_deBruijn64tab)] ((laidWorld os).forCall (fun _ _ => 0) ⟨#[], args, []⟩).memory :=
  laidMetH_of_parts (laidMet_of_run' 8 (by kernel_rfl) (by kernel_rfl)) (by kernel_rfl)
end Go.Proofs.YtlaaljiffcablaaGreatDoor
