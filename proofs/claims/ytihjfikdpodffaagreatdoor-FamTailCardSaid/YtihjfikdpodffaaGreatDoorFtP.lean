/-
  A part of the proof (written by our own tools).
-/
import Derived.Test.YtihjfikdpodffaaGreatDoorVyA
import Derived.Test.YtihjfikdpodffaaGreatDoorFaQ
namespace Go.Proofs.YtihjfikdpodffaaGreatDoor
open Go Go.Sy Go.Sz Go.Vy
set_option linter.unusedVariables false
set_option maxRecDepth 1000000
open Go.Fa
noncomputable def lnK (d : UInt8) (k : Int) : List UInt8 := [114, d, 32, 61, 32] ++ nb k
noncomputable def rWords (d : UInt8) (k : Int) : Row := ⟨[.c (.y 5001 (.v (.string (B (lnK d k)))))], [], .c (.h 0), [.lr 1 3 [.v (.string (ByteArray.mk #[114, d])), .v (.string (ByteArray.mk #[61])), .y 5003 (.v (.string (B (nb k))))]]⟩
noncomputable def rReg (k : Int) : Row := ⟨[.c (.y 5003 (.v (.string (B (nb k))))), .c (.w .u8 114#8)], [], .t [.one (.w .u8 0#8), .one (.v (.bool false))], []⟩
noncomputable def rImm (m : Nat) (k : Int) : Row := ⟨[.c (.y 5003 (.v (.string (B (nb k)))))], [], .t [.one (.y m (.v (.int .i32 k))), .one (.v (.bool true))], []⟩
noncomputable def D103 (d : UInt8) (k : Int) : Summ := rowsS S_v103 [rWords d k]
noncomputable def D108 (k : Int) : Summ := rowsS S_v108 [rReg k]
noncomputable def D105 (m : Nat) (k : Int) : Summ := rowsS S_v105 [rImm m k]
noncomputable def A109 (m : Nat) (k : Int) : Summ := mkS ((108, D108 k) :: (105, D105 m k) :: L_v3) Tryz.f109
noncomputable def A58 (m : Nat) (d : UInt8) (k : Int) : Summ := mkS ((103, D103 d k) :: (109, A109 m k) :: L_v3) Tryz.f58
theorem e_wordsa (k : Int) : (lnK 51 k) = joinC 32 [[114, 51], [61], nb k] := rfl
theorem len_nba (k : Int) (h1 : -2147483648 ≤ k) (h2 : k ≤ 2147483647) : (nb k).length ≤ 21 := by
  unfold nb
  split
  · simp only [List.length_cons]
    have := dg_len 19 (-k).toNat (by omega)
    omega
  · have := dg_len 19 k.toNat (by omega)
    omega
theorem gWordsa (k : Int) (h1 : -2147483648 ≤ k) (h2 : k ≤ 2147483647) : RowG (sumT [.any] false [.c .s] [] Fp.F_words) (rWords 51 k) := by
  refine ⟨rfl, .c (.h 0), [.row strT [(B [114, 51], ()), (B [61], ()), (B (nb k), ())]], ?_, rfl, rfl, rfl, rfl, .cons (.row rfl rfl rfl) .nil⟩
  show (ckP ((B (lnK 51 k)).size ≤ 65536) (.ret (AV.c (.h 0), [Ob.row strT (wv ((B (lnK 51 k)).size + 1) (B (lnK 51 k)) 0 0)]))).run = _
  have hs : (lnK 51 k).length ≤ 40 := by
    have := len_nba k h1 h2
    simp only [lnK, List.length_append, List.length_cons, List.length_nil]; omega
  rw [ckP_true (by rw [B_size]; omega), B_size, e_wordsa]
  have := wv_pieces [[114, 51], [61], nb k] [] (by simp) (by
    intro p hp
    simp only [List.mem_cons, List.not_mem_nil, or_false] at hp
    rcases hp with rfl | rfl | rfl
    · decide
    · decide
    · exact nb_no (by decide) (by decide))
  simp only [List.nil_append, List.length_nil] at this
  rw [this]; rfl
theorem gRega (k : Int) : RowG (sumT [.any, .any] false [.c .s, .c (.w .u8)] [] Fp.F_reg) (rReg k) := by
  refine ⟨rfl, .t [.one (.w .u8 0#8), .one (.v (.bool false))], [], ?_, rfl, rfl, rfl, rfl, .nil⟩
  show (ckP (∃ k' : Int, B (nb k) = B (nb k') ∧ 57 < (114#8).toNat) (.ret (AV.t [.one (.w .u8 (BitVec.ofInt 8 0)), .one (.v (.bool false))], ([] : List Ob)))).run = _
  rw [ckP_true ⟨k, rfl, by decide⟩]; rfl
theorem gImma (k : Int) (h1 : -2147483648 ≤ k) (h2 : k ≤ 2147483647) : RowG (sumT [.any] false [.c .s] [] Fp.F_imm) (rImm 101 k) := by
  refine ⟨rfl, .t [.one (.v (.int .i32 k)), .one (.v (.bool true))], [], ?_, rfl, rfl, rfl, rfl, .nil⟩
  show (ckP (∃ k' : Int, B (nb k) = B (nb k') ∧ -2147483648 ≤ k' ∧ k' ≤ 2147483647) (.ret (AV.t [.one (.v (.int .i32 (rdI (B (nb k))))), .one (.v (.bool true))], ([] : List Ob)))).run = _
  rw [ckP_true ⟨k, rfl, h1, h2⟩, rdI_nb]; rfl
theorem okA58a (k : Int) (h1 : -2147483648 ≤ k) (h2 : k ≤ 2147483647) : SummOk Kn Tryz.prog 58 (A58 101 51 k) :=
  sumE_ok (tok_cl (lk_cons (rows_ok Fp.ok_words ok_v103 (fun r hr => by rw [List.mem_singleton] at hr; subst hr; exact gWordsa k h1 h2))
    (lk_cons (sumE_ok (tok_cl (lk_cons (rows_ok Fp.ok_reg ok_v108 (fun r hr => by rw [List.mem_singleton] at hr; subst hr; exact gRega k))
      (lk_cons (rows_ok Fp.ok_imm ok_v105 (fun r hr => by rw [List.mem_singleton] at hr; subst hr; exact gImma k h1 h2)) tok_v3))) Tryz.checked.mixed Tryz.func109 (by kernel_rfl) (by rfl) 400 []) tok_v3)))
    Tryz.checked.mixed Tryz.func58 (by kernel_rfl) (by rfl) 400 []
noncomputable def hLna (k : Int) : List Ob := [.lr 5 1 [.w .u8 183#8, .w .u8 3#8, .w .u8 0#8, .v (.int .i16 0), .y 101 (.v (.int .i32 k))]]
theorem cLna (k : Int) : allTrue [!(eqBA (B (lnK 51 k)) ⟨#[101, 120, 105, 116]⟩), !(eqBA (B (nb k)) (⟨#[45]⟩ ++ ⟨#[114, 51]⟩))] = true := by
  refine at1 ?_ (at1 ?_ at0)
  · cases h : eqBA (B (lnK 51 k)) ⟨#[101, 120, 105, 116]⟩ with
    | false => rfl
    | true =>
      have : lnK 51 k = [101, 120, 105, 116] := B_inj (eqBA_eq h)
      simp [lnK] at this
  · cases h : eqBA (B (nb k)) (⟨#[45]⟩ ++ ⟨#[114, 51]⟩) with
    | false => rfl
    | true =>
      have h2 : nb k = [45] ++ [114, 51] := B_inj ((eqBA_eq h).trans (B_append [45] [114, 51]))
      have h3 : (114 : UInt8) ∈ nb k := by rw [h2]; simp
      exact absurd h3 (nb_no' (by decide))
theorem tLna (k : Int) : ((A58 101 51 k).g [.c (.y 5001 (.v (.string (B (lnK 51 k)))))] []).run = some (.t [.one (.h 0), .one (.v (.bool true))], hLna k) :=
  Tree.run_of [false, false] (by kernel_rfl) (by kernel_rfl) (cLna k)
noncomputable def linea (k : Int) (h1 : -2147483648 ≤ k) (h2 : k ≤ 2147483647) : LineOk Kn Tryz.prog 58 (B (lnK 51 k), [(183#8, 3#8, 0#8, 0, k, ())]) where
  S := A58 101 51 k
  ok := okA58a k h1 h2
  a := .c (.y 5001 (.v (.string (B (lnK 51 k)))))
  v := .t [.one (.h 0), .one (.v (.bool true))]
  H := hLna k
  pa := rfl
  run := tLna k
  ck := rfl
  np := rfl
  pv := rfl
  rl := .cons (.unrow rfl rfl rfl) .nil
theorem e_wordsk (k : Int) : (lnK 48 k) = joinC 32 [[114, 48], [61], nb k] := rfl
theorem len_nbk (k : Int) (h1 : -2147483648 ≤ k) (h2 : k ≤ 2147483647) : (nb k).length ≤ 21 := by
  unfold nb
  split
  · simp only [List.length_cons]
    have := dg_len 19 (-k).toNat (by omega)
    omega
  · have := dg_len 19 k.toNat (by omega)
    omega
theorem gWordsk (k : Int) (h1 : -2147483648 ≤ k) (h2 : k ≤ 2147483647) : RowG (sumT [.any] false [.c .s] [] Fp.F_words) (rWords 48 k) := by
  refine ⟨rfl, .c (.h 0), [.row strT [(B [114, 48], ()), (B [61], ()), (B (nb k), ())]], ?_, rfl, rfl, rfl, rfl, .cons (.row rfl rfl rfl) .nil⟩
  show (ckP ((B (lnK 48 k)).size ≤ 65536) (.ret (AV.c (.h 0), [Ob.row strT (wv ((B (lnK 48 k)).size + 1) (B (lnK 48 k)) 0 0)]))).run = _
  have hs : (lnK 48 k).length ≤ 40 := by
    have := len_nbk k h1 h2
    simp only [lnK, List.length_append, List.length_cons, List.length_nil]; omega
  rw [ckP_true (by rw [B_size]; omega), B_size, e_wordsk]
  have := wv_pieces [[114, 48], [61], nb k] [] (by simp) (by
    intro p hp
    simp only [List.mem_cons, List.not_mem_nil, or_false] at hp
    rcases hp with rfl | rfl | rfl
    · decide
    · decide
    · exact nb_no (by decide) (by decide))
  simp only [List.nil_append, List.length_nil] at this
  rw [this]; rfl
theorem gRegk (k : Int) : RowG (sumT [.any, .any] false [.c .s, .c (.w .u8)] [] Fp.F_reg) (rReg k) := by
  refine ⟨rfl, .t [.one (.w .u8 0#8), .one (.v (.bool false))], [], ?_, rfl, rfl, rfl, rfl, .nil⟩
  show (ckP (∃ k' : Int, B (nb k) = B (nb k') ∧ 57 < (114#8).toNat) (.ret (AV.t [.one (.w .u8 (BitVec.ofInt 8 0)), .one (.v (.bool false))], ([] : List Ob)))).run = _
  rw [ckP_true ⟨k, rfl, by decide⟩]; rfl
theorem gImmk (k : Int) (h1 : -2147483648 ≤ k) (h2 : k ≤ 2147483647) : RowG (sumT [.any] false [.c .s] [] Fp.F_imm) (rImm 201 k) := by
  refine ⟨rfl, .t [.one (.v (.int .i32 k)), .one (.v (.bool true))], [], ?_, rfl, rfl, rfl, rfl, .nil⟩
  show (ckP (∃ k' : Int, B (nb k) = B (nb k') ∧ -2147483648 ≤ k' ∧ k' ≤ 2147483647) (.ret (AV.t [.one (.v (.int .i32 (rdI (B (nb k))))), .one (.v (.bool true))], ([] : List Ob)))).run = _
  rw [ckP_true ⟨k, rfl, h1, h2⟩, rdI_nb]; rfl
theorem okA58k (k : Int) (h1 : -2147483648 ≤ k) (h2 : k ≤ 2147483647) : SummOk Kn Tryz.prog 58 (A58 201 48 k) :=
  sumE_ok (tok_cl (lk_cons (rows_ok Fp.ok_words ok_v103 (fun r hr => by rw [List.mem_singleton] at hr; subst hr; exact gWordsk k h1 h2))
    (lk_cons (sumE_ok (tok_cl (lk_cons (rows_ok Fp.ok_reg ok_v108 (fun r hr => by rw [List.mem_singleton] at hr; subst hr; exact gRegk k))
      (lk_cons (rows_ok Fp.ok_imm ok_v105 (fun r hr => by rw [List.mem_singleton] at hr; subst hr; exact gImmk k h1 h2)) tok_v3))) Tryz.checked.mixed Tryz.func109 (by kernel_rfl) (by rfl) 400 []) tok_v3)))
    Tryz.checked.mixed Tryz.func58 (by kernel_rfl) (by rfl) 400 []
noncomputable def hLnk (k : Int) : List Ob := [.lr 5 1 [.w .u8 183#8, .w .u8 0#8, .w .u8 0#8, .v (.int .i16 0), .y 201 (.v (.int .i32 k))]]
theorem cLnk (k : Int) : allTrue [!(eqBA (B (lnK 48 k)) ⟨#[101, 120, 105, 116]⟩), !(eqBA (B (nb k)) (⟨#[45]⟩ ++ ⟨#[114, 48]⟩))] = true := by
  refine at1 ?_ (at1 ?_ at0)
  · cases h : eqBA (B (lnK 48 k)) ⟨#[101, 120, 105, 116]⟩ with
    | false => rfl
    | true =>
      have : lnK 48 k = [101, 120, 105, 116] := B_inj (eqBA_eq h)
      simp [lnK] at this
  · cases h : eqBA (B (nb k)) (⟨#[45]⟩ ++ ⟨#[114, 48]⟩) with
    | false => rfl
    | true =>
      have h2 : nb k = [45] ++ [114, 48] := B_inj ((eqBA_eq h).trans (B_append [45] [114, 48]))
      have h3 : (114 : UInt8) ∈ nb k := by rw [h2]; simp
      exact absurd h3 (nb_no' (by decide))
theorem tLnk (k : Int) : ((A58 201 48 k).g [.c (.y 5001 (.v (.string (B (lnK 48 k)))))] []).run = some (.t [.one (.h 0), .one (.v (.bool true))], hLnk k) :=
  Tree.run_of [false, false] (by kernel_rfl) (by kernel_rfl) (cLnk k)
noncomputable def linek (k : Int) (h1 : -2147483648 ≤ k) (h2 : k ≤ 2147483647) : LineOk Kn Tryz.prog 58 (B (lnK 48 k), [(183#8, 0#8, 0#8, 0, k, ())]) where
  S := A58 201 48 k
  ok := okA58k k h1 h2
  a := .c (.y 5001 (.v (.string (B (lnK 48 k)))))
  v := .t [.one (.h 0), .one (.v (.bool true))]
  H := hLnk k
  pa := rfl
  run := tLnk k
  ck := rfl
  np := rfl
  pv := rfl
  rl := .cons (.unrow rfl rfl rfl) .nil
theorem tCm : (S_v58.g [.c (.v (.string ⟨#[114, 50, 32, 61, 32, 109, 97, 112, 32, 48]⟩))] []).run = some (.t [.one (.h 0), .one (.v (.bool true))], [.row insT [(24#8, 2#8, 1#8, 0, 0, ()), (0#8, 0#8, 0#8, 0, 0, ())]]) := by kernel_rfl
noncomputable def lineCm : LineOk Kn Tryz.prog 58 (⟨#[114, 50, 32, 61, 32, 109, 97, 112, 32, 48]⟩, [(24#8, 2#8, 1#8, 0, 0, ()), (0#8, 0#8, 0#8, 0, 0, ())]) where
  S := S_v58
  ok := ok_v58
  a := .c (.v (.string ⟨#[114, 50, 32, 61, 32, 109, 97, 112, 32, 48]⟩))
  v := .t [.one (.h 0), .one (.v (.bool true))]
  H := [.row insT [(24#8, 2#8, 1#8, 0, 0, ()), (0#8, 0#8, 0#8, 0, 0, ())]]
  pa := rfl
  run := tCm
  ck := rfl
  np := rfl
  pv := rfl
  rl := .cons (.refl _) .nil
theorem tCc : (S_v58.g [.c (.v (.string ⟨#[99, 97, 108, 108, 32, 54]⟩))] []).run = some (.t [.one (.h 0), .one (.v (.bool true))], [.row insT [(133#8, 0#8, 0#8, 0, 6, ())]]) := by kernel_rfl
noncomputable def lineCc : LineOk Kn Tryz.prog 58 (⟨#[99, 97, 108, 108, 32, 54]⟩, [(133#8, 0#8, 0#8, 0, 6, ())]) where
  S := S_v58
  ok := ok_v58
  a := .c (.v (.string ⟨#[99, 97, 108, 108, 32, 54]⟩))
  v := .t [.one (.h 0), .one (.v (.bool true))]
  H := [.row insT [(133#8, 0#8, 0#8, 0, 6, ())]]
  pa := rfl
  run := tCc
  ck := rfl
  np := rfl
  pv := rfl
  rl := .cons (.refl _) .nil
theorem tCe : (S_v58.g [.c (.v (.string ⟨#[101, 120, 105, 116]⟩))] []).run = some (.t [.one (.h 0), .one (.v (.bool true))], [.row insT [(149#8, 0#8, 0#8, 0, 0, ())]]) := by kernel_rfl
noncomputable def lineCe : LineOk Kn Tryz.prog 58 (⟨#[101, 120, 105, 116]⟩, [(149#8, 0#8, 0#8, 0, 0, ())]) where
  S := S_v58
  ok := ok_v58
  a := .c (.v (.string ⟨#[101, 120, 105, 116]⟩))
  v := .t [.one (.h 0), .one (.v (.bool true))]
  H := [.row insT [(149#8, 0#8, 0#8, 0, 0, ())]]
  pa := rfl
  run := tCe
  ck := rfl
  np := rfl
  pv := rfl
  rl := .cons (.refl _) .nil
end Go.Proofs.YtihjfikdpodffaaGreatDoor
