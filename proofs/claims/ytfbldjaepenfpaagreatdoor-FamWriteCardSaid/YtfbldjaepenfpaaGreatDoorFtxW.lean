/-
  The lines of the families' texts: what each tells.
-/
import Derived.Test.YtfbldjaepenfpaaGreatDoorFaT
namespace Go.Proofs.YtfbldjaepenfpaaGreatDoor
open Go Go.Sy Go.Sz Go.Vy Go.Fa
set_option linter.unusedVariables false
set_option linter.unusedSimpArgs false
set_option maxRecDepth 1000000
noncomputable def ln_s4 (k : Int) : List UInt8 := [42, 40, 117, 51, 50, 32, 42, 41, 40, 114, 49, 48, 32, 45, 52, 41, 32, 61, 32] ++ nb k
noncomputable def rW_s4 (k : Int) : Row := ⟨[.c (.y 5001 (.v (.string (B (ln_s4 k)))))], [], .c (.h 0), [.lr 1 5 [.v (.string (ByteArray.mk #[42, 40, 117, 51, 50])), .v (.string (ByteArray.mk #[42, 41, 40, 114, 49, 48])), .v (.string (ByteArray.mk #[45, 52, 41])), .v (.string (ByteArray.mk #[61])), .y 5003 (.v (.string (B (nb k))))]]⟩
noncomputable def DW_s4 (k : Int) : Summ := rowsS S_v196 [rW_s4 k]
noncomputable def AS_s4 (k : Int) : Summ := mkS ((201, D_reg k) :: (198, D_imm 101 k) :: L_v6) Tryz.f202
noncomputable def A1_s4 (k : Int) : Summ := mkS ((196, DW_s4 k) :: (202, AS_s4 k) :: (201, D_reg k) :: (198, D_imm 101 k) :: L_v6) Tryz.f119
theorem eW_s4 (k : Int) : (ln_s4 k) = joinC 32 [[42, 40, 117, 51, 50], [42, 41, 40, 114, 49, 48], [45, 52, 41], [61], nb k] := rfl
theorem gW_s4 (k : Int) (h1 : -2147483648 ≤ k) (h2 : k ≤ 2147483647) : RowG (sumT [.any] false [.c .s] [] Fp.F_words) (rW_s4 k) := by
  refine ⟨rfl, .c (.h 0), [.row strT [(B [42, 40, 117, 51, 50], ()), (B [42, 41, 40, 114, 49, 48], ()), (B [45, 52, 41], ()), (B [61], ()), (B (nb k), ())]], ?_, rfl, rfl, rfl, rfl, .cons (.row rfl rfl rfl) .nil⟩
  show (ckP ((B (ln_s4 k)).size ≤ 65536) (.ret (AV.c (.h 0), [Ob.row strT (wv ((B (ln_s4 k)).size + 1) (B (ln_s4 k)) 0 0)]))).run = _
  have hs : (ln_s4 k).length ≤ 100 := by
    have := len_nb k h1 h2
    simp only [ln_s4, List.length_append, List.length_cons, List.length_nil]; omega
  rw [ckP_true (by rw [B_size]; omega), B_size, eW_s4]
  have := wv_pieces [[42, 40, 117, 51, 50], [42, 41, 40, 114, 49, 48], [45, 52, 41], [61], nb k] [] (by simp) (by
    intro p hp
    simp only [List.mem_cons, List.not_mem_nil, or_false] at hp
    rcases hp with rfl | rfl | rfl | rfl | rfl
    · decide
    · decide
    · decide
    · decide
    · exact nb_no (by decide) (by decide))
  simp only [List.nil_append, List.length_nil] at this
  rw [this]; rfl
theorem ok1_s4 (k : Int) (h1 : -2147483648 ≤ k) (h2 : k ≤ 2147483647) : SummOk Kn Tryz.prog 119 (A1_s4 k) :=
  sumE_ok (tok_cl (lk_cons (rows_ok Fp.ok_words ok_v196 (fun r hr => by rw [List.mem_singleton] at hr; subst hr; exact gW_s4 k h1 h2))
    (lk_cons (sumE_ok (tok_cl (lk_cons (okD_reg k) (lk_cons (okD_imm 101 k h1 h2) tok_v6))) Tryz.checked.mixed Tryz.func202 (by kernel_rfl) (by rfl) 400 [])
      (lk_cons (okD_reg k) (lk_cons (okD_imm 101 k h1 h2) tok_v6))))) Tryz.checked.mixed Tryz.func119 (by kernel_rfl) (by rfl) 400 []
noncomputable def hL_s4 (k : Int) : List Ob := [.lr 5 1 [.w .u8 98#8, .w .u8 10#8, .w .u8 0#8, .v (.int .i16 (-4)), .y 101 (.v (.int .i32 k))]]
theorem eq_exit_s4 (k : Int) : eqBA (B (ln_s4 k)) ⟨#[101, 120, 105, 116]⟩ = false := neqB fun e => by simp [ln_s4] at e
theorem cL_s4 (k : Int) : allTrue [!(eqBA (Fa.B ([(42 : UInt8), (40 : UInt8), (117 : UInt8), (51 : UInt8), (50 : UInt8), (32 : UInt8), (42 : UInt8), (41 : UInt8), (40 : UInt8), (114 : UInt8), (49 : UInt8), (48 : UInt8), (32 : UInt8), (45 : UInt8), (52 : UInt8), (41 : UInt8), (32 : UInt8), (61 : UInt8), (32 : UInt8)] ++ nb k)) { data := { toList := [(101 : UInt8), (120 : UInt8), (105 : UInt8), (116 : UInt8)] } })] = true := (at1 (not_f (eq_exit_s4 k)) at0)
theorem tL_s4 (k : Int) : ((A1_s4 k).g [.c (.y 5001 (.v (.string (B (ln_s4 k)))))] []).run = some (.t [.one (.h 0), .one (.v (.bool true))], hL_s4 k) :=
  run_ofQ [false] (by kernel_rfl) (by kernel_rfl) (cL_s4 k)
noncomputable def li_s4 (k : Int) (h1 : -2147483648 ≤ k) (h2 : k ≤ 2147483647) : LineOk Kn Tryz.prog 119 (B (ln_s4 k), [(98#8, 10#8, 0#8, (-4), k, ())]) where
  S := A1_s4 k
  ok := ok1_s4 k h1 h2
  a := .c (.y 5001 (.v (.string (B (ln_s4 k)))))
  v := .t [.one (.h 0), .one (.v (.bool true))]
  H := hL_s4 k
  pa := rfl
  run := tL_s4 k
  ck := rfl
  np := rfl
  pv := rfl
  rl := .cons (.unrow rfl rfl rfl) .nil
theorem Lt_s4 (k : Int) (h1 : -2147483648 ≤ k) (h2 : k ≤ 2147483647) : Lt (ln_s4 k) := Lt_pre 42 [40, 117, 51, 50, 32, 42, 41, 40, 114, 49, 48, 32, 45, 52, 41, 32, 61, 32] (by decide) (by decide) (by decide) (by decide) k h1 h2
theorem sm_s4 (k : Int) : (59 : UInt8) ∉ ln_s4 k ∧ (10 : UInt8) ∉ ln_s4 k := sm_pre [42, 40, 117, 51, 50, 32, 42, 41, 40, 114, 49, 48, 32, 45, 52, 41, 32, 61, 32] (by decide) (by decide) k
noncomputable def ln_s16 (k : Int) : List UInt8 := [42, 40, 117, 54, 52, 32, 42, 41, 40, 114, 49, 48, 32, 45, 49, 54, 41, 32, 61, 32] ++ nb k
noncomputable def rW_s16 (k : Int) : Row := ⟨[.c (.y 5001 (.v (.string (B (ln_s16 k)))))], [], .c (.h 0), [.lr 1 5 [.v (.string (ByteArray.mk #[42, 40, 117, 54, 52])), .v (.string (ByteArray.mk #[42, 41, 40, 114, 49, 48])), .v (.string (ByteArray.mk #[45, 49, 54, 41])), .v (.string (ByteArray.mk #[61])), .y 5003 (.v (.string (B (nb k))))]]⟩
noncomputable def DW_s16 (k : Int) : Summ := rowsS S_v196 [rW_s16 k]
noncomputable def AS_s16 (k : Int) : Summ := mkS ((201, D_reg k) :: (198, D_imm 201 k) :: L_v6) Tryz.f202
noncomputable def A1_s16 (k : Int) : Summ := mkS ((196, DW_s16 k) :: (202, AS_s16 k) :: (201, D_reg k) :: (198, D_imm 201 k) :: L_v6) Tryz.f119
theorem eW_s16 (k : Int) : (ln_s16 k) = joinC 32 [[42, 40, 117, 54, 52], [42, 41, 40, 114, 49, 48], [45, 49, 54, 41], [61], nb k] := rfl
theorem gW_s16 (k : Int) (h1 : -2147483648 ≤ k) (h2 : k ≤ 2147483647) : RowG (sumT [.any] false [.c .s] [] Fp.F_words) (rW_s16 k) := by
  refine ⟨rfl, .c (.h 0), [.row strT [(B [42, 40, 117, 54, 52], ()), (B [42, 41, 40, 114, 49, 48], ()), (B [45, 49, 54, 41], ()), (B [61], ()), (B (nb k), ())]], ?_, rfl, rfl, rfl, rfl, .cons (.row rfl rfl rfl) .nil⟩
  show (ckP ((B (ln_s16 k)).size ≤ 65536) (.ret (AV.c (.h 0), [Ob.row strT (wv ((B (ln_s16 k)).size + 1) (B (ln_s16 k)) 0 0)]))).run = _
  have hs : (ln_s16 k).length ≤ 100 := by
    have := len_nb k h1 h2
    simp only [ln_s16, List.length_append, List.length_cons, List.length_nil]; omega
  rw [ckP_true (by rw [B_size]; omega), B_size, eW_s16]
  have := wv_pieces [[42, 40, 117, 54, 52], [42, 41, 40, 114, 49, 48], [45, 49, 54, 41], [61], nb k] [] (by simp) (by
    intro p hp
    simp only [List.mem_cons, List.not_mem_nil, or_false] at hp
    rcases hp with rfl | rfl | rfl | rfl | rfl
    · decide
    · decide
    · decide
    · decide
    · exact nb_no (by decide) (by decide))
  simp only [List.nil_append, List.length_nil] at this
  rw [this]; rfl
theorem ok1_s16 (k : Int) (h1 : -2147483648 ≤ k) (h2 : k ≤ 2147483647) : SummOk Kn Tryz.prog 119 (A1_s16 k) :=
  sumE_ok (tok_cl (lk_cons (rows_ok Fp.ok_words ok_v196 (fun r hr => by rw [List.mem_singleton] at hr; subst hr; exact gW_s16 k h1 h2))
    (lk_cons (sumE_ok (tok_cl (lk_cons (okD_reg k) (lk_cons (okD_imm 201 k h1 h2) tok_v6))) Tryz.checked.mixed Tryz.func202 (by kernel_rfl) (by rfl) 400 [])
      (lk_cons (okD_reg k) (lk_cons (okD_imm 201 k h1 h2) tok_v6))))) Tryz.checked.mixed Tryz.func119 (by kernel_rfl) (by rfl) 400 []
noncomputable def hL_s16 (k : Int) : List Ob := [.lr 5 1 [.w .u8 122#8, .w .u8 10#8, .w .u8 0#8, .v (.int .i16 (-16)), .y 201 (.v (.int .i32 k))]]
theorem eq_exit_s16 (k : Int) : eqBA (B (ln_s16 k)) ⟨#[101, 120, 105, 116]⟩ = false := neqB fun e => by simp [ln_s16] at e
theorem cL_s16 (k : Int) : allTrue [!(eqBA (Fa.B ([(42 : UInt8), (40 : UInt8), (117 : UInt8), (54 : UInt8), (52 : UInt8), (32 : UInt8), (42 : UInt8), (41 : UInt8), (40 : UInt8), (114 : UInt8), (49 : UInt8), (48 : UInt8), (32 : UInt8), (45 : UInt8), (49 : UInt8), (54 : UInt8), (41 : UInt8), (32 : UInt8), (61 : UInt8), (32 : UInt8)] ++ nb k)) { data := { toList := [(101 : UInt8), (120 : UInt8), (105 : UInt8), (116 : UInt8)] } })] = true := (at1 (not_f (eq_exit_s16 k)) at0)
theorem tL_s16 (k : Int) : ((A1_s16 k).g [.c (.y 5001 (.v (.string (B (ln_s16 k)))))] []).run = some (.t [.one (.h 0), .one (.v (.bool true))], hL_s16 k) :=
  run_ofQ [false] (by kernel_rfl) (by kernel_rfl) (cL_s16 k)
noncomputable def li_s16 (k : Int) (h1 : -2147483648 ≤ k) (h2 : k ≤ 2147483647) : LineOk Kn Tryz.prog 119 (B (ln_s16 k), [(122#8, 10#8, 0#8, (-16), k, ())]) where
  S := A1_s16 k
  ok := ok1_s16 k h1 h2
  a := .c (.y 5001 (.v (.string (B (ln_s16 k)))))
  v := .t [.one (.h 0), .one (.v (.bool true))]
  H := hL_s16 k
  pa := rfl
  run := tL_s16 k
  ck := rfl
  np := rfl
  pv := rfl
  rl := .cons (.unrow rfl rfl rfl) .nil
theorem Lt_s16 (k : Int) (h1 : -2147483648 ≤ k) (h2 : k ≤ 2147483647) : Lt (ln_s16 k) := Lt_pre 42 [40, 117, 54, 52, 32, 42, 41, 40, 114, 49, 48, 32, 45, 49, 54, 41, 32, 61, 32] (by decide) (by decide) (by decide) (by decide) k h1 h2
theorem sm_s16 (k : Int) : (59 : UInt8) ∉ ln_s16 k ∧ (10 : UInt8) ∉ ln_s16 k := sm_pre [42, 40, 117, 54, 52, 32, 42, 41, 40, 114, 49, 48, 32, 45, 49, 54, 41, 32, 61, 32] (by decide) (by decide) k
noncomputable def ln_s8 (k : Int) : List UInt8 := [42, 40, 117, 54, 52, 32, 42, 41, 40, 114, 49, 48, 32, 45, 56, 41, 32, 61, 32] ++ nb k
noncomputable def rW_s8 (k : Int) : Row := ⟨[.c (.y 5001 (.v (.string (B (ln_s8 k)))))], [], .c (.h 0), [.lr 1 5 [.v (.string (ByteArray.mk #[42, 40, 117, 54, 52])), .v (.string (ByteArray.mk #[42, 41, 40, 114, 49, 48])), .v (.string (ByteArray.mk #[45, 56, 41])), .v (.string (ByteArray.mk #[61])), .y 5003 (.v (.string (B (nb k))))]]⟩
noncomputable def DW_s8 (k : Int) : Summ := rowsS S_v196 [rW_s8 k]
noncomputable def AS_s8 (k : Int) : Summ := mkS ((201, D_reg k) :: (198, D_imm 201 k) :: L_v6) Tryz.f202
noncomputable def A1_s8 (k : Int) : Summ := mkS ((196, DW_s8 k) :: (202, AS_s8 k) :: (201, D_reg k) :: (198, D_imm 201 k) :: L_v6) Tryz.f119
theorem eW_s8 (k : Int) : (ln_s8 k) = joinC 32 [[42, 40, 117, 54, 52], [42, 41, 40, 114, 49, 48], [45, 56, 41], [61], nb k] := rfl
theorem gW_s8 (k : Int) (h1 : -2147483648 ≤ k) (h2 : k ≤ 2147483647) : RowG (sumT [.any] false [.c .s] [] Fp.F_words) (rW_s8 k) := by
  refine ⟨rfl, .c (.h 0), [.row strT [(B [42, 40, 117, 54, 52], ()), (B [42, 41, 40, 114, 49, 48], ()), (B [45, 56, 41], ()), (B [61], ()), (B (nb k), ())]], ?_, rfl, rfl, rfl, rfl, .cons (.row rfl rfl rfl) .nil⟩
  show (ckP ((B (ln_s8 k)).size ≤ 65536) (.ret (AV.c (.h 0), [Ob.row strT (wv ((B (ln_s8 k)).size + 1) (B (ln_s8 k)) 0 0)]))).run = _
  have hs : (ln_s8 k).length ≤ 100 := by
    have := len_nb k h1 h2
    simp only [ln_s8, List.length_append, List.length_cons, List.length_nil]; omega
  rw [ckP_true (by rw [B_size]; omega), B_size, eW_s8]
  have := wv_pieces [[42, 40, 117, 54, 52], [42, 41, 40, 114, 49, 48], [45, 56, 41], [61], nb k] [] (by simp) (by
    intro p hp
    simp only [List.mem_cons, List.not_mem_nil, or_false] at hp
    rcases hp with rfl | rfl | rfl | rfl | rfl
    · decide
    · decide
    · decide
    · decide
    · exact nb_no (by decide) (by decide))
  simp only [List.nil_append, List.length_nil] at this
  rw [this]; rfl
theorem ok1_s8 (k : Int) (h1 : -2147483648 ≤ k) (h2 : k ≤ 2147483647) : SummOk Kn Tryz.prog 119 (A1_s8 k) :=
  sumE_ok (tok_cl (lk_cons (rows_ok Fp.ok_words ok_v196 (fun r hr => by rw [List.mem_singleton] at hr; subst hr; exact gW_s8 k h1 h2))
    (lk_cons (sumE_ok (tok_cl (lk_cons (okD_reg k) (lk_cons (okD_imm 201 k h1 h2) tok_v6))) Tryz.checked.mixed Tryz.func202 (by kernel_rfl) (by rfl) 400 [])
      (lk_cons (okD_reg k) (lk_cons (okD_imm 201 k h1 h2) tok_v6))))) Tryz.checked.mixed Tryz.func119 (by kernel_rfl) (by rfl) 400 []
noncomputable def hL_s8 (k : Int) : List Ob := [.lr 5 1 [.w .u8 122#8, .w .u8 10#8, .w .u8 0#8, .v (.int .i16 (-8)), .y 201 (.v (.int .i32 k))]]
theorem eq_exit_s8 (k : Int) : eqBA (B (ln_s8 k)) ⟨#[101, 120, 105, 116]⟩ = false := neqB fun e => by simp [ln_s8] at e
theorem cL_s8 (k : Int) : allTrue [!(eqBA (Fa.B ([(42 : UInt8), (40 : UInt8), (117 : UInt8), (54 : UInt8), (52 : UInt8), (32 : UInt8), (42 : UInt8), (41 : UInt8), (40 : UInt8), (114 : UInt8), (49 : UInt8), (48 : UInt8), (32 : UInt8), (45 : UInt8), (56 : UInt8), (41 : UInt8), (32 : UInt8), (61 : UInt8), (32 : UInt8)] ++ nb k)) { data := { toList := [(101 : UInt8), (120 : UInt8), (105 : UInt8), (116 : UInt8)] } })] = true := (at1 (not_f (eq_exit_s8 k)) at0)
theorem tL_s8 (k : Int) : ((A1_s8 k).g [.c (.y 5001 (.v (.string (B (ln_s8 k)))))] []).run = some (.t [.one (.h 0), .one (.v (.bool true))], hL_s8 k) :=
  run_ofQ [false] (by kernel_rfl) (by kernel_rfl) (cL_s8 k)
noncomputable def li_s8 (k : Int) (h1 : -2147483648 ≤ k) (h2 : k ≤ 2147483647) : LineOk Kn Tryz.prog 119 (B (ln_s8 k), [(122#8, 10#8, 0#8, (-8), k, ())]) where
  S := A1_s8 k
  ok := ok1_s8 k h1 h2
  a := .c (.y 5001 (.v (.string (B (ln_s8 k)))))
  v := .t [.one (.h 0), .one (.v (.bool true))]
  H := hL_s8 k
  pa := rfl
  run := tL_s8 k
  ck := rfl
  np := rfl
  pv := rfl
  rl := .cons (.unrow rfl rfl rfl) .nil
theorem Lt_s8 (k : Int) (h1 : -2147483648 ≤ k) (h2 : k ≤ 2147483647) : Lt (ln_s8 k) := Lt_pre 42 [40, 117, 54, 52, 32, 42, 41, 40, 114, 49, 48, 32, 45, 56, 41, 32, 61, 32] (by decide) (by decide) (by decide) (by decide) k h1 h2
theorem sm_s8 (k : Int) : (59 : UInt8) ∉ ln_s8 k ∧ (10 : UInt8) ∉ ln_s8 k := sm_pre [42, 40, 117, 54, 52, 32, 42, 41, 40, 114, 49, 48, 32, 45, 56, 41, 32, 61, 32] (by decide) (by decide) k
def lc_r1_e_map_0 : List UInt8 := [114, 49, 32, 61, 32, 109, 97, 112, 32, 48]
theorem tC_r1_e_map_0 : (S_v119.g [.c (.v (.string ⟨#[114, 49, 32, 61, 32, 109, 97, 112, 32, 48]⟩))] []).run = some (.t [.one (.h 0), .one (.v (.bool true))], [.row insT [(24#8, 1#8, 1#8, 0, 0, ()), (0#8, 0#8, 0#8, 0, 0, ())]]) := by kernel_rfl
noncomputable def li_r1_e_map_0 : LineOk Kn Tryz.prog 119 (B lc_r1_e_map_0, [(24#8, 1#8, 1#8, 0, 0, ()), (0#8, 0#8, 0#8, 0, 0, ())]) where
  S := S_v119
  ok := ok_v119
  a := .c (.v (.string ⟨#[114, 49, 32, 61, 32, 109, 97, 112, 32, 48]⟩))
  v := .t [.one (.h 0), .one (.v (.bool true))]
  H := [.row insT [(24#8, 1#8, 1#8, 0, 0, ()), (0#8, 0#8, 0#8, 0, 0, ())]]
  pa := rfl
  run := tC_r1_e_map_0
  ck := rfl
  np := rfl
  pv := rfl
  rl := .cons (.refl _) .nil
theorem Lt_r1_e_map_0 : Lt lc_r1_e_map_0 := ⟨by decide, ⟨_, _, rfl, by decide, by decide⟩, ⟨[114, 49, 32, 61, 32, 109, 97, 112, 32], 48, rfl, by decide, by decide⟩, by decide⟩
theorem sm_r1_e_map_0 : (59 : UInt8) ∉ lc_r1_e_map_0 ∧ (10 : UInt8) ∉ lc_r1_e_map_0 := ⟨by decide, by decide⟩
def lc_r2_e_r10 : List UInt8 := [114, 50, 32, 61, 32, 114, 49, 48]
theorem tC_r2_e_r10 : (S_v119.g [.c (.v (.string ⟨#[114, 50, 32, 61, 32, 114, 49, 48]⟩))] []).run = some (.t [.one (.h 0), .one (.v (.bool true))], [.row insT [(191#8, 2#8, 10#8, 0, 0, ())]]) := by kernel_rfl
noncomputable def li_r2_e_r10 : LineOk Kn Tryz.prog 119 (B lc_r2_e_r10, [(191#8, 2#8, 10#8, 0, 0, ())]) where
  S := S_v119
  ok := ok_v119
  a := .c (.v (.string ⟨#[114, 50, 32, 61, 32, 114, 49, 48]⟩))
  v := .t [.one (.h 0), .one (.v (.bool true))]
  H := [.row insT [(191#8, 2#8, 10#8, 0, 0, ())]]
  pa := rfl
  run := tC_r2_e_r10
  ck := rfl
  np := rfl
  pv := rfl
  rl := .cons (.refl _) .nil
theorem Lt_r2_e_r10 : Lt lc_r2_e_r10 := ⟨by decide, ⟨_, _, rfl, by decide, by decide⟩, ⟨[114, 50, 32, 61, 32, 114, 49], 48, rfl, by decide, by decide⟩, by decide⟩
theorem sm_r2_e_r10 : (59 : UInt8) ∉ lc_r2_e_r10 ∧ (10 : UInt8) ∉ lc_r2_e_r10 := ⟨by decide, by decide⟩
def lc_r2_pe_m4 : List UInt8 := [114, 50, 32, 43, 61, 32, 45, 52]
theorem tC_r2_pe_m4 : (S_v119.g [.c (.v (.string ⟨#[114, 50, 32, 43, 61, 32, 45, 52]⟩))] []).run = some (.t [.one (.h 0), .one (.v (.bool true))], [.row insT [(7#8, 2#8, 0#8, 0, (-4), ())]]) := by kernel_rfl
noncomputable def li_r2_pe_m4 : LineOk Kn Tryz.prog 119 (B lc_r2_pe_m4, [(7#8, 2#8, 0#8, 0, (-4), ())]) where
  S := S_v119
  ok := ok_v119
  a := .c (.v (.string ⟨#[114, 50, 32, 43, 61, 32, 45, 52]⟩))
  v := .t [.one (.h 0), .one (.v (.bool true))]
  H := [.row insT [(7#8, 2#8, 0#8, 0, (-4), ())]]
  pa := rfl
  run := tC_r2_pe_m4
  ck := rfl
  np := rfl
  pv := rfl
  rl := .cons (.refl _) .nil
theorem Lt_r2_pe_m4 : Lt lc_r2_pe_m4 := ⟨by decide, ⟨_, _, rfl, by decide, by decide⟩, ⟨[114, 50, 32, 43, 61, 32, 45], 52, rfl, by decide, by decide⟩, by decide⟩
theorem sm_r2_pe_m4 : (59 : UInt8) ∉ lc_r2_pe_m4 ∧ (10 : UInt8) ∉ lc_r2_pe_m4 := ⟨by decide, by decide⟩
def lc_r3_e_r10 : List UInt8 := [114, 51, 32, 61, 32, 114, 49, 48]
theorem tC_r3_e_r10 : (S_v119.g [.c (.v (.string ⟨#[114, 51, 32, 61, 32, 114, 49, 48]⟩))] []).run = some (.t [.one (.h 0), .one (.v (.bool true))], [.row insT [(191#8, 3#8, 10#8, 0, 0, ())]]) := by kernel_rfl
noncomputable def li_r3_e_r10 : LineOk Kn Tryz.prog 119 (B lc_r3_e_r10, [(191#8, 3#8, 10#8, 0, 0, ())]) where
  S := S_v119
  ok := ok_v119
  a := .c (.v (.string ⟨#[114, 51, 32, 61, 32, 114, 49, 48]⟩))
  v := .t [.one (.h 0), .one (.v (.bool true))]
  H := [.row insT [(191#8, 3#8, 10#8, 0, 0, ())]]
  pa := rfl
  run := tC_r3_e_r10
  ck := rfl
  np := rfl
  pv := rfl
  rl := .cons (.refl _) .nil
theorem Lt_r3_e_r10 : Lt lc_r3_e_r10 := ⟨by decide, ⟨_, _, rfl, by decide, by decide⟩, ⟨[114, 51, 32, 61, 32, 114, 49], 48, rfl, by decide, by decide⟩, by decide⟩
theorem sm_r3_e_r10 : (59 : UInt8) ∉ lc_r3_e_r10 ∧ (10 : UInt8) ∉ lc_r3_e_r10 := ⟨by decide, by decide⟩
def lc_r3_pe_m16 : List UInt8 := [114, 51, 32, 43, 61, 32, 45, 49, 54]
theorem tC_r3_pe_m16 : (S_v119.g [.c (.v (.string ⟨#[114, 51, 32, 43, 61, 32, 45, 49, 54]⟩))] []).run = some (.t [.one (.h 0), .one (.v (.bool true))], [.row insT [(7#8, 3#8, 0#8, 0, (-16), ())]]) := by kernel_rfl
noncomputable def li_r3_pe_m16 : LineOk Kn Tryz.prog 119 (B lc_r3_pe_m16, [(7#8, 3#8, 0#8, 0, (-16), ())]) where
  S := S_v119
  ok := ok_v119
  a := .c (.v (.string ⟨#[114, 51, 32, 43, 61, 32, 45, 49, 54]⟩))
  v := .t [.one (.h 0), .one (.v (.bool true))]
  H := [.row insT [(7#8, 3#8, 0#8, 0, (-16), ())]]
  pa := rfl
  run := tC_r3_pe_m16
  ck := rfl
  np := rfl
  pv := rfl
  rl := .cons (.refl _) .nil
theorem Lt_r3_pe_m16 : Lt lc_r3_pe_m16 := ⟨by decide, ⟨_, _, rfl, by decide, by decide⟩, ⟨[114, 51, 32, 43, 61, 32, 45, 49], 54, rfl, by decide, by decide⟩, by decide⟩
theorem sm_r3_pe_m16 : (59 : UInt8) ∉ lc_r3_pe_m16 ∧ (10 : UInt8) ∉ lc_r3_pe_m16 := ⟨by decide, by decide⟩
def lc_r4_e_0 : List UInt8 := [114, 52, 32, 61, 32, 48]
theorem tC_r4_e_0 : (S_v119.g [.c (.v (.string ⟨#[114, 52, 32, 61, 32, 48]⟩))] []).run = some (.t [.one (.h 0), .one (.v (.bool true))], [.row insT [(183#8, 4#8, 0#8, 0, 0, ())]]) := by kernel_rfl
noncomputable def li_r4_e_0 : LineOk Kn Tryz.prog 119 (B lc_r4_e_0, [(183#8, 4#8, 0#8, 0, 0, ())]) where
  S := S_v119
  ok := ok_v119
  a := .c (.v (.string ⟨#[114, 52, 32, 61, 32, 48]⟩))
  v := .t [.one (.h 0), .one (.v (.bool true))]
  H := [.row insT [(183#8, 4#8, 0#8, 0, 0, ())]]
  pa := rfl
  run := tC_r4_e_0
  ck := rfl
  np := rfl
  pv := rfl
  rl := .cons (.refl _) .nil
theorem Lt_r4_e_0 : Lt lc_r4_e_0 := ⟨by decide, ⟨_, _, rfl, by decide, by decide⟩, ⟨[114, 52, 32, 61, 32], 48, rfl, by decide, by decide⟩, by decide⟩
theorem sm_r4_e_0 : (59 : UInt8) ∉ lc_r4_e_0 ∧ (10 : UInt8) ∉ lc_r4_e_0 := ⟨by decide, by decide⟩
def lc_call_2 : List UInt8 := [99, 97, 108, 108, 32, 50]
theorem tC_call_2 : (S_v119.g [.c (.v (.string ⟨#[99, 97, 108, 108, 32, 50]⟩))] []).run = some (.t [.one (.h 0), .one (.v (.bool true))], [.row insT [(133#8, 0#8, 0#8, 0, 2, ())]]) := by kernel_rfl
noncomputable def li_call_2 : LineOk Kn Tryz.prog 119 (B lc_call_2, [(133#8, 0#8, 0#8, 0, 2, ())]) where
  S := S_v119
  ok := ok_v119
  a := .c (.v (.string ⟨#[99, 97, 108, 108, 32, 50]⟩))
  v := .t [.one (.h 0), .one (.v (.bool true))]
  H := [.row insT [(133#8, 0#8, 0#8, 0, 2, ())]]
  pa := rfl
  run := tC_call_2
  ck := rfl
  np := rfl
  pv := rfl
  rl := .cons (.refl _) .nil
theorem Lt_call_2 : Lt lc_call_2 := ⟨by decide, ⟨_, _, rfl, by decide, by decide⟩, ⟨[99, 97, 108, 108, 32], 50, rfl, by decide, by decide⟩, by decide⟩
theorem sm_call_2 : (59 : UInt8) ∉ lc_call_2 ∧ (10 : UInt8) ∉ lc_call_2 := ⟨by decide, by decide⟩
def lc_exit : List UInt8 := [101, 120, 105, 116]
theorem tC_exit : (S_v119.g [.c (.v (.string ⟨#[101, 120, 105, 116]⟩))] []).run = some (.t [.one (.h 0), .one (.v (.bool true))], [.row insT [(149#8, 0#8, 0#8, 0, 0, ())]]) := by kernel_rfl
noncomputable def li_exit : LineOk Kn Tryz.prog 119 (B lc_exit, [(149#8, 0#8, 0#8, 0, 0, ())]) where
  S := S_v119
  ok := ok_v119
  a := .c (.v (.string ⟨#[101, 120, 105, 116]⟩))
  v := .t [.one (.h 0), .one (.v (.bool true))]
  H := [.row insT [(149#8, 0#8, 0#8, 0, 0, ())]]
  pa := rfl
  run := tC_exit
  ck := rfl
  np := rfl
  pv := rfl
  rl := .cons (.refl _) .nil
theorem Lt_exit : Lt lc_exit := ⟨by decide, ⟨_, _, rfl, by decide, by decide⟩, ⟨[101, 120, 105], 116, rfl, by decide, by decide⟩, by decide⟩
theorem sm_exit : (59 : UInt8) ∉ lc_exit ∧ (10 : UInt8) ∉ lc_exit := ⟨by decide, by decide⟩
def lc_call_3 : List UInt8 := [99, 97, 108, 108, 32, 51]
theorem tC_call_3 : (S_v119.g [.c (.v (.string ⟨#[99, 97, 108, 108, 32, 51]⟩))] []).run = some (.t [.one (.h 0), .one (.v (.bool true))], [.row insT [(133#8, 0#8, 0#8, 0, 3, ())]]) := by kernel_rfl
noncomputable def li_call_3 : LineOk Kn Tryz.prog 119 (B lc_call_3, [(133#8, 0#8, 0#8, 0, 3, ())]) where
  S := S_v119
  ok := ok_v119
  a := .c (.v (.string ⟨#[99, 97, 108, 108, 32, 51]⟩))
  v := .t [.one (.h 0), .one (.v (.bool true))]
  H := [.row insT [(133#8, 0#8, 0#8, 0, 3, ())]]
  pa := rfl
  run := tC_call_3
  ck := rfl
  np := rfl
  pv := rfl
  rl := .cons (.refl _) .nil
theorem Lt_call_3 : Lt lc_call_3 := ⟨by decide, ⟨_, _, rfl, by decide, by decide⟩, ⟨[99, 97, 108, 108, 32], 51, rfl, by decide, by decide⟩, by decide⟩
theorem sm_call_3 : (59 : UInt8) ∉ lc_call_3 ∧ (10 : UInt8) ∉ lc_call_3 := ⟨by decide, by decide⟩
def lc_r2_pe_m8 : List UInt8 := [114, 50, 32, 43, 61, 32, 45, 56]
theorem tC_r2_pe_m8 : (S_v119.g [.c (.v (.string ⟨#[114, 50, 32, 43, 61, 32, 45, 56]⟩))] []).run = some (.t [.one (.h 0), .one (.v (.bool true))], [.row insT [(7#8, 2#8, 0#8, 0, (-8), ())]]) := by kernel_rfl
noncomputable def li_r2_pe_m8 : LineOk Kn Tryz.prog 119 (B lc_r2_pe_m8, [(7#8, 2#8, 0#8, 0, (-8), ())]) where
  S := S_v119
  ok := ok_v119
  a := .c (.v (.string ⟨#[114, 50, 32, 43, 61, 32, 45, 56]⟩))
  v := .t [.one (.h 0), .one (.v (.bool true))]
  H := [.row insT [(7#8, 2#8, 0#8, 0, (-8), ())]]
  pa := rfl
  run := tC_r2_pe_m8
  ck := rfl
  np := rfl
  pv := rfl
  rl := .cons (.refl _) .nil
theorem Lt_r2_pe_m8 : Lt lc_r2_pe_m8 := ⟨by decide, ⟨_, _, rfl, by decide, by decide⟩, ⟨[114, 50, 32, 43, 61, 32, 45], 56, rfl, by decide, by decide⟩, by decide⟩
theorem sm_r2_pe_m8 : (59 : UInt8) ∉ lc_r2_pe_m8 ∧ (10 : UInt8) ∉ lc_r2_pe_m8 := ⟨by decide, by decide⟩
def lc_r3_e_8 : List UInt8 := [114, 51, 32, 61, 32, 56]
theorem tC_r3_e_8 : (S_v119.g [.c (.v (.string ⟨#[114, 51, 32, 61, 32, 56]⟩))] []).run = some (.t [.one (.h 0), .one (.v (.bool true))], [.row insT [(183#8, 3#8, 0#8, 0, 8, ())]]) := by kernel_rfl
noncomputable def li_r3_e_8 : LineOk Kn Tryz.prog 119 (B lc_r3_e_8, [(183#8, 3#8, 0#8, 0, 8, ())]) where
  S := S_v119
  ok := ok_v119
  a := .c (.v (.string ⟨#[114, 51, 32, 61, 32, 56]⟩))
  v := .t [.one (.h 0), .one (.v (.bool true))]
  H := [.row insT [(183#8, 3#8, 0#8, 0, 8, ())]]
  pa := rfl
  run := tC_r3_e_8
  ck := rfl
  np := rfl
  pv := rfl
  rl := .cons (.refl _) .nil
theorem Lt_r3_e_8 : Lt lc_r3_e_8 := ⟨by decide, ⟨_, _, rfl, by decide, by decide⟩, ⟨[114, 51, 32, 61, 32], 56, rfl, by decide, by decide⟩, by decide⟩
theorem sm_r3_e_8 : (59 : UInt8) ∉ lc_r3_e_8 ∧ (10 : UInt8) ∉ lc_r3_e_8 := ⟨by decide, by decide⟩
def lc_call_8 : List UInt8 := [99, 97, 108, 108, 32, 56]
theorem tC_call_8 : (S_v119.g [.c (.v (.string ⟨#[99, 97, 108, 108, 32, 56]⟩))] []).run = some (.t [.one (.h 0), .one (.v (.bool true))], [.row insT [(133#8, 0#8, 0#8, 0, 8, ())]]) := by kernel_rfl
noncomputable def li_call_8 : LineOk Kn Tryz.prog 119 (B lc_call_8, [(133#8, 0#8, 0#8, 0, 8, ())]) where
  S := S_v119
  ok := ok_v119
  a := .c (.v (.string ⟨#[99, 97, 108, 108, 32, 56]⟩))
  v := .t [.one (.h 0), .one (.v (.bool true))]
  H := [.row insT [(133#8, 0#8, 0#8, 0, 8, ())]]
  pa := rfl
  run := tC_call_8
  ck := rfl
  np := rfl
  pv := rfl
  rl := .cons (.refl _) .nil
theorem Lt_call_8 : Lt lc_call_8 := ⟨by decide, ⟨_, _, rfl, by decide, by decide⟩, ⟨[99, 97, 108, 108, 32], 56, rfl, by decide, by decide⟩, by decide⟩
theorem sm_call_8 : (59 : UInt8) ∉ lc_call_8 ∧ (10 : UInt8) ∉ lc_call_8 := ⟨by decide, by decide⟩
end Go.Proofs.YtfbldjaepenfpaaGreatDoor
namespace Go.Proofs.YtfbldjaepenfpaaGreatDoor
open Go Go.Sy Go.Sz Go.Vy Go.Fa
set_option linter.unusedVariables false
set_option linter.unusedSimpArgs false
set_option maxRecDepth 1000000
noncomputable def CC_WR0 (a k : Int) : ByteArray := (((((⟨#[42, 40, 117, 51, 50, 32, 42, 41, 40, 114, 49, 48, 32, 45, 52, 41, 32, 61, 32]⟩ : ByteArray) ++ B (nb a)) ++ (⟨#[59, 32, 42, 40, 117, 54, 52, 32, 42, 41, 40, 114, 49, 48, 32, 45, 49, 54, 41, 32, 61, 32]⟩ : ByteArray)) ++ B (nb k)) ++ (⟨#[59, 32, 114, 49, 32, 61, 32, 109, 97, 112, 32, 48, 59, 32, 114, 50, 32, 61, 32, 114, 49, 48, 59, 32, 114, 50, 32, 43, 61, 32, 45, 52, 59, 32, 114, 51, 32, 61, 32, 114, 49, 48, 59, 32, 114, 51, 32, 43, 61, 32, 45, 49, 54, 59, 32, 114, 52, 32, 61, 32, 48, 59, 32, 99, 97, 108, 108, 32, 50, 59, 32, 101, 120, 105, 116]⟩ : ByteArray))
noncomputable def ps_WR0 (a k : Int) : List (List UInt8) := [ln_s4 a, 32 :: ln_s16 k, 32 :: lc_r1_e_map_0, 32 :: lc_r2_e_r10, 32 :: lc_r2_pe_m4, 32 :: lc_r3_e_r10, 32 :: lc_r3_pe_m16, 32 :: lc_r4_e_0, 32 :: lc_call_2, 32 :: lc_exit]
noncomputable def sl_WR0 (a k : Int) : Slots := [(98#8, 10#8, 0#8, (-4), a, ()), (122#8, 10#8, 0#8, (-16), k, ()), (24#8, 1#8, 1#8, 0, 0, ()), (0#8, 0#8, 0#8, 0, 0, ()), (191#8, 2#8, 10#8, 0, 0, ()), (7#8, 2#8, 0#8, 0, (-4), ()), (191#8, 3#8, 10#8, 0, 0, ()), (7#8, 3#8, 0#8, 0, (-16), ()), (183#8, 4#8, 0#8, 0, 0, ()), (133#8, 0#8, 0#8, 0, 2, ()), (149#8, 0#8, 0#8, 0, 0, ())]
noncomputable def tb_WR0 (a k : Int) : Tb := [(B lc_r1_e_map_0, [(24#8, 1#8, 1#8, 0, 0, ()), (0#8, 0#8, 0#8, 0, 0, ())]), (B lc_r2_e_r10, [(191#8, 2#8, 10#8, 0, 0, ())]), (B lc_r2_pe_m4, [(7#8, 2#8, 0#8, 0, (-4), ())]), (B lc_r3_e_r10, [(191#8, 3#8, 10#8, 0, 0, ())]), (B lc_r3_pe_m16, [(7#8, 3#8, 0#8, 0, (-16), ())]), (B lc_r4_e_0, [(183#8, 4#8, 0#8, 0, 0, ())]), (B lc_call_2, [(133#8, 0#8, 0#8, 0, 2, ())]), (B lc_exit, [(149#8, 0#8, 0#8, 0, 0, ())]), (B (ln_s4 a), [(98#8, 10#8, 0#8, (-4), a, ())]), (B (ln_s16 k), [(122#8, 10#8, 0#8, (-16), k, ())])]
theorem lok_WR0 (a k : Int) (a1 : -2147483648 ≤ a) (a2 : a ≤ 2147483647) (k1 : -2147483648 ≤ k) (k2 : k ≤ 2147483647) : SummOk Kn Tryz.prog 119 (oneS (fndT (tb_WR0 a k)) (getT (tb_WR0 a k))) :=
  lines_ok ⟨_, Tryz.func119, by kernel_rfl, by kernel_rfl⟩ (.cons li_r1_e_map_0 (.cons li_r2_e_r10 (.cons li_r2_pe_m4 (.cons li_r3_e_r10 (.cons li_r3_pe_m16 (.cons li_r4_e_0 (.cons li_call_2 (.cons li_exit (.cons (li_s4 a a1 a2) (.cons (li_s16 k k1 k2) .nil))))))))))
noncomputable def LK_WR0 (a k : Int) (a1 : -2147483648 ≤ a) (a2 : a ≤ 2147483647) (k1 : -2147483648 ≤ k) (k2 : k ≤ 2147483647) : Fp.LK := ⟨fndT (tb_WR0 a k), getT (tb_WR0 a k), lok_WR0 a k a1 a2 k1 k2⟩
theorem all_WR0 (a k : Int) (a1 : -2147483648 ≤ a) (a2 : a ≤ 2147483647) (k1 : -2147483648 ≤ k) (k2 : k ≤ 2147483647) : lnAll (@Fp.lnV ⟨LK_WR0 a k a1 a2 k1 k2⟩) (ps_WR0 a k) = some (sl_WR0 a k) := by
  letI : Inhabited Fp.LK := ⟨LK_WR0 a k a1 a2 k1 k2⟩
  have e0 : Fp.lnV (B (ln_s4 a)) = some [(98#8, 10#8, 0#8, (-4), a, ())] := by
    have n0 : eqBA (B lc_r1_e_map_0) (B (ln_s4 a)) = false := rfl
    have n1 : eqBA (B lc_r2_e_r10) (B (ln_s4 a)) = false := rfl
    have n2 : eqBA (B lc_r2_pe_m4) (B (ln_s4 a)) = false := rfl
    have n3 : eqBA (B lc_r3_e_r10) (B (ln_s4 a)) = false := rfl
    have n4 : eqBA (B lc_r3_pe_m16) (B (ln_s4 a)) = false := rfl
    have n5 : eqBA (B lc_r4_e_0) (B (ln_s4 a)) = false := rfl
    have n6 : eqBA (B lc_call_2) (B (ln_s4 a)) = false := rfl
    have n7 : eqBA (B lc_exit) (B (ln_s4 a)) = false := rfl
    exact ln_of (tm_plain (Lt_s4 a a1 a2)) (by simp [ln_s4])
      (by show fndT (tb_WR0 a k) (B (ln_s4 a)) = true; simp only [tb_WR0, fndT, n0, n1, n2, n3, n4, n5, n6, n7, eqBA_refl, Bool.false_or, Bool.true_or])
      (by show getT (tb_WR0 a k) (B (ln_s4 a)) = _; simp only [tb_WR0, getT, n0, n1, n2, n3, n4, n5, n6, n7, eqBA_refl, cond_true, cond_false]) (by simp)
  have e1 : Fp.lnV (B (32 :: ln_s16 k)) = some [(122#8, 10#8, 0#8, (-16), k, ())] := by
    have n0 : eqBA (B lc_r1_e_map_0) (B (ln_s16 k)) = false := rfl
    have n1 : eqBA (B lc_r2_e_r10) (B (ln_s16 k)) = false := rfl
    have n2 : eqBA (B lc_r2_pe_m4) (B (ln_s16 k)) = false := rfl
    have n3 : eqBA (B lc_r3_e_r10) (B (ln_s16 k)) = false := rfl
    have n4 : eqBA (B lc_r3_pe_m16) (B (ln_s16 k)) = false := rfl
    have n5 : eqBA (B lc_r4_e_0) (B (ln_s16 k)) = false := rfl
    have n6 : eqBA (B lc_call_2) (B (ln_s16 k)) = false := rfl
    have n7 : eqBA (B lc_exit) (B (ln_s16 k)) = false := rfl
    have n8 : eqBA (B (ln_s4 a)) (B (ln_s16 k)) = false := rfl
    exact ln_of (tm_blank (Lt_s16 k k1 k2)) (by simp [ln_s16])
      (by show fndT (tb_WR0 a k) (B (ln_s16 k)) = true; simp only [tb_WR0, fndT, n0, n1, n2, n3, n4, n5, n6, n7, n8, eqBA_refl, Bool.false_or, Bool.true_or])
      (by show getT (tb_WR0 a k) (B (ln_s16 k)) = _; simp only [tb_WR0, getT, n0, n1, n2, n3, n4, n5, n6, n7, n8, eqBA_refl, cond_true, cond_false]) (by simp)
  have e2 : Fp.lnV (B (32 :: lc_r1_e_map_0)) = some [(24#8, 1#8, 1#8, 0, 0, ()), (0#8, 0#8, 0#8, 0, 0, ())] := ln_of (tm_blank Lt_r1_e_map_0) (by decide) rfl rfl (by decide)
  have e3 : Fp.lnV (B (32 :: lc_r2_e_r10)) = some [(191#8, 2#8, 10#8, 0, 0, ())] := ln_of (tm_blank Lt_r2_e_r10) (by decide) rfl rfl (by decide)
  have e4 : Fp.lnV (B (32 :: lc_r2_pe_m4)) = some [(7#8, 2#8, 0#8, 0, (-4), ())] := ln_of (tm_blank Lt_r2_pe_m4) (by decide) rfl rfl (by decide)
  have e5 : Fp.lnV (B (32 :: lc_r3_e_r10)) = some [(191#8, 3#8, 10#8, 0, 0, ())] := ln_of (tm_blank Lt_r3_e_r10) (by decide) rfl rfl (by decide)
  have e6 : Fp.lnV (B (32 :: lc_r3_pe_m16)) = some [(7#8, 3#8, 0#8, 0, (-16), ())] := ln_of (tm_blank Lt_r3_pe_m16) (by decide) rfl rfl (by decide)
  have e7 : Fp.lnV (B (32 :: lc_r4_e_0)) = some [(183#8, 4#8, 0#8, 0, 0, ())] := ln_of (tm_blank Lt_r4_e_0) (by decide) rfl rfl (by decide)
  have e8 : Fp.lnV (B (32 :: lc_call_2)) = some [(133#8, 0#8, 0#8, 0, 2, ())] := ln_of (tm_blank Lt_call_2) (by decide) rfl rfl (by decide)
  have e9 : Fp.lnV (B (32 :: lc_exit)) = some [(149#8, 0#8, 0#8, 0, 0, ())] := ln_of (tm_blank Lt_exit) (by decide) rfl rfl (by decide)
  simp only [ps_WR0, lnAll, e0, e1, e2, e3, e4, e5, e6, e7, e8, e9]
  rfl
theorem CCe_WR0 (a k : Int) : CC_WR0 a k = B (joinC 59 (ps_WR0 a k)) := by
  unfold CC_WR0
  rw [show (⟨#[42, 40, 117, 51, 50, 32, 42, 41, 40, 114, 49, 48, 32, 45, 52, 41, 32, 61, 32]⟩ : ByteArray) = B [42, 40, 117, 51, 50, 32, 42, 41, 40, 114, 49, 48, 32, 45, 52, 41, 32, 61, 32] from rfl, show (⟨#[59, 32, 42, 40, 117, 54, 52, 32, 42, 41, 40, 114, 49, 48, 32, 45, 49, 54, 41, 32, 61, 32]⟩ : ByteArray) = B [59, 32, 42, 40, 117, 54, 52, 32, 42, 41, 40, 114, 49, 48, 32, 45, 49, 54, 41, 32, 61, 32] from rfl, show (⟨#[59, 32, 114, 49, 32, 61, 32, 109, 97, 112, 32, 48, 59, 32, 114, 50, 32, 61, 32, 114, 49, 48, 59, 32, 114, 50, 32, 43, 61, 32, 45, 52, 59, 32, 114, 51, 32, 61, 32, 114, 49, 48, 59, 32, 114, 51, 32, 43, 61, 32, 45, 49, 54, 59, 32, 114, 52, 32, 61, 32, 48, 59, 32, 99, 97, 108, 108, 32, 50, 59, 32, 101, 120, 105, 116]⟩ : ByteArray) = B [59, 32, 114, 49, 32, 61, 32, 109, 97, 112, 32, 48, 59, 32, 114, 50, 32, 61, 32, 114, 49, 48, 59, 32, 114, 50, 32, 43, 61, 32, 45, 52, 59, 32, 114, 51, 32, 61, 32, 114, 49, 48, 59, 32, 114, 51, 32, 43, 61, 32, 45, 49, 54, 59, 32, 114, 52, 32, 61, 32, 48, 59, 32, 99, 97, 108, 108, 32, 50, 59, 32, 101, 120, 105, 116] from rfl]
  simp only [B_append]
  congr 1
  all_goals first | (simp only [List.append_assoc]; done) | (simp only [List.append_assoc]; rfl) | rfl
theorem sem_WR0 (a k : Int) : ∀ p ∈ ps_WR0 a k, (59 : UInt8) ∉ p ∧ (10 : UInt8) ∉ p := by
  intro p hp
  simp only [ps_WR0, List.mem_cons, List.not_mem_nil, or_false] at hp
  rcases hp with rfl | rfl | rfl | rfl | rfl | rfl | rfl | rfl | rfl | rfl
  · exact (sm_s4 a)
  · exact sm_b (sm_s16 k)
  · exact sm_b sm_r1_e_map_0
  · exact sm_b sm_r2_e_r10
  · exact sm_b sm_r2_pe_m4
  · exact sm_b sm_r3_e_r10
  · exact sm_b sm_r3_pe_m16
  · exact sm_b sm_r4_e_0
  · exact sm_b sm_call_2
  · exact sm_b sm_exit
theorem size_WR0 (a k : Int) (a1 : -2147483648 ≤ a) (a2 : a ≤ 2147483647) (k1 : -2147483648 ≤ k) (k2 : k ≤ 2147483647) : (CC_WR0 a k).size ≤ 2000 := by
  have := len_nb a a1 a2
  have := len_nb k k1 k2
  have z0 : (⟨#[42, 40, 117, 51, 50, 32, 42, 41, 40, 114, 49, 48, 32, 45, 52, 41, 32, 61, 32]⟩ : ByteArray).size = 19 := rfl
  have z1 : (⟨#[59, 32, 42, 40, 117, 54, 52, 32, 42, 41, 40, 114, 49, 48, 32, 45, 49, 54, 41, 32, 61, 32]⟩ : ByteArray).size = 22 := rfl
  have z2 : (⟨#[59, 32, 114, 49, 32, 61, 32, 109, 97, 112, 32, 48, 59, 32, 114, 50, 32, 61, 32, 114, 49, 48, 59, 32, 114, 50, 32, 43, 61, 32, 45, 52, 59, 32, 114, 51, 32, 61, 32, 114, 49, 48, 59, 32, 114, 51, 32, 43, 61, 32, 45, 49, 54, 59, 32, 114, 52, 32, 61, 32, 48, 59, 32, 99, 97, 108, 108, 32, 50, 59, 32, 101, 120, 105, 116]⟩ : ByteArray).size = 75 := rfl
  simp only [CC_WR0, ByteArray.size_append, B_size, z0, z1, z2]
  omega
noncomputable def rTx_WR0 (a k : Int) : Row := ⟨[.c (.y 83397359 (.v (.string (CC_WR0 a k))))], [], .c (.h 0), [.lr 5 11 [.w .u8 98#8, .w .u8 10#8, .w .u8 0#8, .v (.int .i16 (-4)), .y 101 (.v (.int .i32 a)), .w .u8 122#8, .w .u8 10#8, .w .u8 0#8, .v (.int .i16 (-16)), .y 201 (.v (.int .i32 k)), .w .u8 24#8, .w .u8 1#8, .w .u8 1#8, .v (.int .i16 0), .v (.int .i32 0), .w .u8 0#8, .w .u8 0#8, .w .u8 0#8, .v (.int .i16 0), .v (.int .i32 0), .w .u8 191#8, .w .u8 2#8, .w .u8 10#8, .v (.int .i16 0), .v (.int .i32 0), .w .u8 7#8, .w .u8 2#8, .w .u8 0#8, .v (.int .i16 0), .v (.int .i32 (-4)), .w .u8 191#8, .w .u8 3#8, .w .u8 10#8, .v (.int .i16 0), .v (.int .i32 0), .w .u8 7#8, .w .u8 3#8, .w .u8 0#8, .v (.int .i16 0), .v (.int .i32 (-16)), .w .u8 183#8, .w .u8 4#8, .w .u8 0#8, .v (.int .i16 0), .v (.int .i32 0), .w .u8 133#8, .w .u8 0#8, .w .u8 0#8, .v (.int .i16 0), .v (.int .i32 2), .w .u8 149#8, .w .u8 0#8, .w .u8 0#8, .v (.int .i16 0), .v (.int .i32 0)]]⟩
theorem gTx_WR0 (a k : Int) (a1 : -2147483648 ≤ a) (a2 : a ≤ 2147483647) (k1 : -2147483648 ≤ k) (k2 : k ≤ 2147483647) : RowG (sumT [.any] false [.c .s] [] (@Fp.F_lines ⟨LK_WR0 a k a1 a2 k1 k2⟩)) (rTx_WR0 a k) :=
  gTxt (LK_WR0 a k a1 a2 k1 k2) (CCe_WR0 a k) (by simp [ps_WR0]) (sem_WR0 a k) (Nat.le_trans (size_WR0 a k a1 a2 k1 k2) (by decide)) (all_WR0 a k a1 a2 k1 k2) rfl (.row rfl rfl rfl) rfl
noncomputable def D14_WR0 (a k : Int) : Summ := rowsS S_v43 [rTx_WR0 a k]
theorem k14_WR0 (a k : Int) (a1 : -2147483648 ≤ a) (a2 : a ≤ 2147483647) (k1 : -2147483648 ≤ k) (k2 : k ≤ 2147483647) : SummOk Kn Tryz.prog 43 (D14_WR0 a k) := rows_ok (@Fp.ok_lines ⟨LK_WR0 a k a1 a2 k1 k2⟩) ok_v43 (fun r hr => by rw [List.mem_singleton] at hr; subst hr; exact gTx_WR0 a k a1 a2 k1 k2)
noncomputable def CC_WR1 (a : Int) : ByteArray := (((⟨#[42, 40, 117, 51, 50, 32, 42, 41, 40, 114, 49, 48, 32, 45, 52, 41, 32, 61, 32]⟩ : ByteArray) ++ B (nb a)) ++ (⟨#[59, 32, 114, 49, 32, 61, 32, 109, 97, 112, 32, 48, 59, 32, 114, 50, 32, 61, 32, 114, 49, 48, 59, 32, 114, 50, 32, 43, 61, 32, 45, 52, 59, 32, 99, 97, 108, 108, 32, 51, 59, 32, 101, 120, 105, 116]⟩ : ByteArray))
noncomputable def ps_WR1 (a : Int) : List (List UInt8) := [ln_s4 a, 32 :: lc_r1_e_map_0, 32 :: lc_r2_e_r10, 32 :: lc_r2_pe_m4, 32 :: lc_call_3, 32 :: lc_exit]
noncomputable def sl_WR1 (a : Int) : Slots := [(98#8, 10#8, 0#8, (-4), a, ()), (24#8, 1#8, 1#8, 0, 0, ()), (0#8, 0#8, 0#8, 0, 0, ()), (191#8, 2#8, 10#8, 0, 0, ()), (7#8, 2#8, 0#8, 0, (-4), ()), (133#8, 0#8, 0#8, 0, 3, ()), (149#8, 0#8, 0#8, 0, 0, ())]
noncomputable def tb_WR1 (a : Int) : Tb := [(B lc_r1_e_map_0, [(24#8, 1#8, 1#8, 0, 0, ()), (0#8, 0#8, 0#8, 0, 0, ())]), (B lc_r2_e_r10, [(191#8, 2#8, 10#8, 0, 0, ())]), (B lc_r2_pe_m4, [(7#8, 2#8, 0#8, 0, (-4), ())]), (B lc_call_3, [(133#8, 0#8, 0#8, 0, 3, ())]), (B lc_exit, [(149#8, 0#8, 0#8, 0, 0, ())]), (B (ln_s4 a), [(98#8, 10#8, 0#8, (-4), a, ())])]
theorem lok_WR1 (a : Int) (a1 : -2147483648 ≤ a) (a2 : a ≤ 2147483647) : SummOk Kn Tryz.prog 119 (oneS (fndT (tb_WR1 a)) (getT (tb_WR1 a))) :=
  lines_ok ⟨_, Tryz.func119, by kernel_rfl, by kernel_rfl⟩ (.cons li_r1_e_map_0 (.cons li_r2_e_r10 (.cons li_r2_pe_m4 (.cons li_call_3 (.cons li_exit (.cons (li_s4 a a1 a2) .nil))))))
noncomputable def LK_WR1 (a : Int) (a1 : -2147483648 ≤ a) (a2 : a ≤ 2147483647) : Fp.LK := ⟨fndT (tb_WR1 a), getT (tb_WR1 a), lok_WR1 a a1 a2⟩
theorem all_WR1 (a : Int) (a1 : -2147483648 ≤ a) (a2 : a ≤ 2147483647) : lnAll (@Fp.lnV ⟨LK_WR1 a a1 a2⟩) (ps_WR1 a) = some (sl_WR1 a) := by
  letI : Inhabited Fp.LK := ⟨LK_WR1 a a1 a2⟩
  have e0 : Fp.lnV (B (ln_s4 a)) = some [(98#8, 10#8, 0#8, (-4), a, ())] := by
    have n0 : eqBA (B lc_r1_e_map_0) (B (ln_s4 a)) = false := rfl
    have n1 : eqBA (B lc_r2_e_r10) (B (ln_s4 a)) = false := rfl
    have n2 : eqBA (B lc_r2_pe_m4) (B (ln_s4 a)) = false := rfl
    have n3 : eqBA (B lc_call_3) (B (ln_s4 a)) = false := rfl
    have n4 : eqBA (B lc_exit) (B (ln_s4 a)) = false := rfl
    exact ln_of (tm_plain (Lt_s4 a a1 a2)) (by simp [ln_s4])
      (by show fndT (tb_WR1 a) (B (ln_s4 a)) = true; simp only [tb_WR1, fndT, n0, n1, n2, n3, n4, eqBA_refl, Bool.false_or, Bool.true_or])
      (by show getT (tb_WR1 a) (B (ln_s4 a)) = _; simp only [tb_WR1, getT, n0, n1, n2, n3, n4, eqBA_refl, cond_true, cond_false]) (by simp)
  have e1 : Fp.lnV (B (32 :: lc_r1_e_map_0)) = some [(24#8, 1#8, 1#8, 0, 0, ()), (0#8, 0#8, 0#8, 0, 0, ())] := ln_of (tm_blank Lt_r1_e_map_0) (by decide) rfl rfl (by decide)
  have e2 : Fp.lnV (B (32 :: lc_r2_e_r10)) = some [(191#8, 2#8, 10#8, 0, 0, ())] := ln_of (tm_blank Lt_r2_e_r10) (by decide) rfl rfl (by decide)
  have e3 : Fp.lnV (B (32 :: lc_r2_pe_m4)) = some [(7#8, 2#8, 0#8, 0, (-4), ())] := ln_of (tm_blank Lt_r2_pe_m4) (by decide) rfl rfl (by decide)
  have e4 : Fp.lnV (B (32 :: lc_call_3)) = some [(133#8, 0#8, 0#8, 0, 3, ())] := ln_of (tm_blank Lt_call_3) (by decide) rfl rfl (by decide)
  have e5 : Fp.lnV (B (32 :: lc_exit)) = some [(149#8, 0#8, 0#8, 0, 0, ())] := ln_of (tm_blank Lt_exit) (by decide) rfl rfl (by decide)
  simp only [ps_WR1, lnAll, e0, e1, e2, e3, e4, e5]
  rfl
theorem CCe_WR1 (a : Int) : CC_WR1 a = B (joinC 59 (ps_WR1 a)) := by
  unfold CC_WR1
  rw [show (⟨#[42, 40, 117, 51, 50, 32, 42, 41, 40, 114, 49, 48, 32, 45, 52, 41, 32, 61, 32]⟩ : ByteArray) = B [42, 40, 117, 51, 50, 32, 42, 41, 40, 114, 49, 48, 32, 45, 52, 41, 32, 61, 32] from rfl, show (⟨#[59, 32, 114, 49, 32, 61, 32, 109, 97, 112, 32, 48, 59, 32, 114, 50, 32, 61, 32, 114, 49, 48, 59, 32, 114, 50, 32, 43, 61, 32, 45, 52, 59, 32, 99, 97, 108, 108, 32, 51, 59, 32, 101, 120, 105, 116]⟩ : ByteArray) = B [59, 32, 114, 49, 32, 61, 32, 109, 97, 112, 32, 48, 59, 32, 114, 50, 32, 61, 32, 114, 49, 48, 59, 32, 114, 50, 32, 43, 61, 32, 45, 52, 59, 32, 99, 97, 108, 108, 32, 51, 59, 32, 101, 120, 105, 116] from rfl]
  simp only [B_append]
  congr 1
  all_goals first | (simp only [List.append_assoc]; done) | (simp only [List.append_assoc]; rfl) | rfl
theorem sem_WR1 (a : Int) : ∀ p ∈ ps_WR1 a, (59 : UInt8) ∉ p ∧ (10 : UInt8) ∉ p := by
  intro p hp
  simp only [ps_WR1, List.mem_cons, List.not_mem_nil, or_false] at hp
  rcases hp with rfl | rfl | rfl | rfl | rfl | rfl
  · exact (sm_s4 a)
  · exact sm_b sm_r1_e_map_0
  · exact sm_b sm_r2_e_r10
  · exact sm_b sm_r2_pe_m4
  · exact sm_b sm_call_3
  · exact sm_b sm_exit
theorem size_WR1 (a : Int) (a1 : -2147483648 ≤ a) (a2 : a ≤ 2147483647) : (CC_WR1 a).size ≤ 2000 := by
  have := len_nb a a1 a2
  have z0 : (⟨#[42, 40, 117, 51, 50, 32, 42, 41, 40, 114, 49, 48, 32, 45, 52, 41, 32, 61, 32]⟩ : ByteArray).size = 19 := rfl
  have z1 : (⟨#[59, 32, 114, 49, 32, 61, 32, 109, 97, 112, 32, 48, 59, 32, 114, 50, 32, 61, 32, 114, 49, 48, 59, 32, 114, 50, 32, 43, 61, 32, 45, 52, 59, 32, 99, 97, 108, 108, 32, 51, 59, 32, 101, 120, 105, 116]⟩ : ByteArray).size = 46 := rfl
  simp only [CC_WR1, ByteArray.size_append, B_size, z0, z1]
  omega
noncomputable def rTx_WR1 (a : Int) : Row := ⟨[.c (.y 423335 (.v (.string (CC_WR1 a))))], [], .c (.h 0), [.lr 5 7 [.w .u8 98#8, .w .u8 10#8, .w .u8 0#8, .v (.int .i16 (-4)), .y 101 (.v (.int .i32 a)), .w .u8 24#8, .w .u8 1#8, .w .u8 1#8, .v (.int .i16 0), .v (.int .i32 0), .w .u8 0#8, .w .u8 0#8, .w .u8 0#8, .v (.int .i16 0), .v (.int .i32 0), .w .u8 191#8, .w .u8 2#8, .w .u8 10#8, .v (.int .i16 0), .v (.int .i32 0), .w .u8 7#8, .w .u8 2#8, .w .u8 0#8, .v (.int .i16 0), .v (.int .i32 (-4)), .w .u8 133#8, .w .u8 0#8, .w .u8 0#8, .v (.int .i16 0), .v (.int .i32 3), .w .u8 149#8, .w .u8 0#8, .w .u8 0#8, .v (.int .i16 0), .v (.int .i32 0)]]⟩
theorem gTx_WR1 (a : Int) (a1 : -2147483648 ≤ a) (a2 : a ≤ 2147483647) : RowG (sumT [.any] false [.c .s] [] (@Fp.F_lines ⟨LK_WR1 a a1 a2⟩)) (rTx_WR1 a) :=
  gTxt (LK_WR1 a a1 a2) (CCe_WR1 a) (by simp [ps_WR1]) (sem_WR1 a) (Nat.le_trans (size_WR1 a a1 a2) (by decide)) (all_WR1 a a1 a2) rfl (.row rfl rfl rfl) rfl
noncomputable def D14_WR1 (a : Int) : Summ := rowsS S_v43 [rTx_WR1 a]
theorem k14_WR1 (a : Int) (a1 : -2147483648 ≤ a) (a2 : a ≤ 2147483647) : SummOk Kn Tryz.prog 43 (D14_WR1 a) := rows_ok (@Fp.ok_lines ⟨LK_WR1 a a1 a2⟩) ok_v43 (fun r hr => by rw [List.mem_singleton] at hr; subst hr; exact gTx_WR1 a a1 a2)
noncomputable def CC_SM3 (k : Int) : ByteArray := (((⟨#[42, 40, 117, 54, 52, 32, 42, 41, 40, 114, 49, 48, 32, 45, 56, 41, 32, 61, 32]⟩ : ByteArray) ++ B (nb k)) ++ (⟨#[59, 32, 114, 49, 32, 61, 32, 109, 97, 112, 32, 48, 59, 32, 114, 50, 32, 61, 32, 114, 49, 48, 59, 32, 114, 50, 32, 43, 61, 32, 45, 56, 59, 32, 114, 51, 32, 61, 32, 56, 59, 32, 99, 97, 108, 108, 32, 56, 59, 32, 101, 120, 105, 116]⟩ : ByteArray))
noncomputable def ps_SM3 (k : Int) : List (List UInt8) := [ln_s8 k, 32 :: lc_r1_e_map_0, 32 :: lc_r2_e_r10, 32 :: lc_r2_pe_m8, 32 :: lc_r3_e_8, 32 :: lc_call_8, 32 :: lc_exit]
noncomputable def sl_SM3 (k : Int) : Slots := [(122#8, 10#8, 0#8, (-8), k, ()), (24#8, 1#8, 1#8, 0, 0, ()), (0#8, 0#8, 0#8, 0, 0, ()), (191#8, 2#8, 10#8, 0, 0, ()), (7#8, 2#8, 0#8, 0, (-8), ()), (183#8, 3#8, 0#8, 0, 8, ()), (133#8, 0#8, 0#8, 0, 8, ()), (149#8, 0#8, 0#8, 0, 0, ())]
noncomputable def tb_SM3 (k : Int) : Tb := [(B lc_r1_e_map_0, [(24#8, 1#8, 1#8, 0, 0, ()), (0#8, 0#8, 0#8, 0, 0, ())]), (B lc_r2_e_r10, [(191#8, 2#8, 10#8, 0, 0, ())]), (B lc_r2_pe_m8, [(7#8, 2#8, 0#8, 0, (-8), ())]), (B lc_r3_e_8, [(183#8, 3#8, 0#8, 0, 8, ())]), (B lc_call_8, [(133#8, 0#8, 0#8, 0, 8, ())]), (B lc_exit, [(149#8, 0#8, 0#8, 0, 0, ())]), (B (ln_s8 k), [(122#8, 10#8, 0#8, (-8), k, ())])]
theorem lok_SM3 (k : Int) (k1 : -2147483648 ≤ k) (k2 : k ≤ 2147483647) : SummOk Kn Tryz.prog 119 (oneS (fndT (tb_SM3 k)) (getT (tb_SM3 k))) :=
  lines_ok ⟨_, Tryz.func119, by kernel_rfl, by kernel_rfl⟩ (.cons li_r1_e_map_0 (.cons li_r2_e_r10 (.cons li_r2_pe_m8 (.cons li_r3_e_8 (.cons li_call_8 (.cons li_exit (.cons (li_s8 k k1 k2) .nil)))))))
noncomputable def LK_SM3 (k : Int) (k1 : -2147483648 ≤ k) (k2 : k ≤ 2147483647) : Fp.LK := ⟨fndT (tb_SM3 k), getT (tb_SM3 k), lok_SM3 k k1 k2⟩
theorem all_SM3 (k : Int) (k1 : -2147483648 ≤ k) (k2 : k ≤ 2147483647) : lnAll (@Fp.lnV ⟨LK_SM3 k k1 k2⟩) (ps_SM3 k) = some (sl_SM3 k) := by
  letI : Inhabited Fp.LK := ⟨LK_SM3 k k1 k2⟩
  have e0 : Fp.lnV (B (ln_s8 k)) = some [(122#8, 10#8, 0#8, (-8), k, ())] := by
    have n0 : eqBA (B lc_r1_e_map_0) (B (ln_s8 k)) = false := rfl
    have n1 : eqBA (B lc_r2_e_r10) (B (ln_s8 k)) = false := rfl
    have n2 : eqBA (B lc_r2_pe_m8) (B (ln_s8 k)) = false := rfl
    have n3 : eqBA (B lc_r3_e_8) (B (ln_s8 k)) = false := rfl
    have n4 : eqBA (B lc_call_8) (B (ln_s8 k)) = false := rfl
    have n5 : eqBA (B lc_exit) (B (ln_s8 k)) = false := rfl
    exact ln_of (tm_plain (Lt_s8 k k1 k2)) (by simp [ln_s8])
      (by show fndT (tb_SM3 k) (B (ln_s8 k)) = true; simp only [tb_SM3, fndT, n0, n1, n2, n3, n4, n5, eqBA_refl, Bool.false_or, Bool.true_or])
      (by show getT (tb_SM3 k) (B (ln_s8 k)) = _; simp only [tb_SM3, getT, n0, n1, n2, n3, n4, n5, eqBA_refl, cond_true, cond_false]) (by simp)
  have e1 : Fp.lnV (B (32 :: lc_r1_e_map_0)) = some [(24#8, 1#8, 1#8, 0, 0, ()), (0#8, 0#8, 0#8, 0, 0, ())] := ln_of (tm_blank Lt_r1_e_map_0) (by decide) rfl rfl (by decide)
  have e2 : Fp.lnV (B (32 :: lc_r2_e_r10)) = some [(191#8, 2#8, 10#8, 0, 0, ())] := ln_of (tm_blank Lt_r2_e_r10) (by decide) rfl rfl (by decide)
  have e3 : Fp.lnV (B (32 :: lc_r2_pe_m8)) = some [(7#8, 2#8, 0#8, 0, (-8), ())] := ln_of (tm_blank Lt_r2_pe_m8) (by decide) rfl rfl (by decide)
  have e4 : Fp.lnV (B (32 :: lc_r3_e_8)) = some [(183#8, 3#8, 0#8, 0, 8, ())] := ln_of (tm_blank Lt_r3_e_8) (by decide) rfl rfl (by decide)
  have e5 : Fp.lnV (B (32 :: lc_call_8)) = some [(133#8, 0#8, 0#8, 0, 8, ())] := ln_of (tm_blank Lt_call_8) (by decide) rfl rfl (by decide)
  have e6 : Fp.lnV (B (32 :: lc_exit)) = some [(149#8, 0#8, 0#8, 0, 0, ())] := ln_of (tm_blank Lt_exit) (by decide) rfl rfl (by decide)
  simp only [ps_SM3, lnAll, e0, e1, e2, e3, e4, e5, e6]
  rfl
theorem CCe_SM3 (k : Int) : CC_SM3 k = B (joinC 59 (ps_SM3 k)) := by
  unfold CC_SM3
  rw [show (⟨#[42, 40, 117, 54, 52, 32, 42, 41, 40, 114, 49, 48, 32, 45, 56, 41, 32, 61, 32]⟩ : ByteArray) = B [42, 40, 117, 54, 52, 32, 42, 41, 40, 114, 49, 48, 32, 45, 56, 41, 32, 61, 32] from rfl, show (⟨#[59, 32, 114, 49, 32, 61, 32, 109, 97, 112, 32, 48, 59, 32, 114, 50, 32, 61, 32, 114, 49, 48, 59, 32, 114, 50, 32, 43, 61, 32, 45, 56, 59, 32, 114, 51, 32, 61, 32, 56, 59, 32, 99, 97, 108, 108, 32, 56, 59, 32, 101, 120, 105, 116]⟩ : ByteArray) = B [59, 32, 114, 49, 32, 61, 32, 109, 97, 112, 32, 48, 59, 32, 114, 50, 32, 61, 32, 114, 49, 48, 59, 32, 114, 50, 32, 43, 61, 32, 45, 56, 59, 32, 114, 51, 32, 61, 32, 56, 59, 32, 99, 97, 108, 108, 32, 56, 59, 32, 101, 120, 105, 116] from rfl]
  simp only [B_append]
  congr 1
  all_goals first | (simp only [List.append_assoc]; done) | (simp only [List.append_assoc]; rfl) | rfl
theorem sem_SM3 (k : Int) : ∀ p ∈ ps_SM3 k, (59 : UInt8) ∉ p ∧ (10 : UInt8) ∉ p := by
  intro p hp
  simp only [ps_SM3, List.mem_cons, List.not_mem_nil, or_false] at hp
  rcases hp with rfl | rfl | rfl | rfl | rfl | rfl | rfl
  · exact (sm_s8 k)
  · exact sm_b sm_r1_e_map_0
  · exact sm_b sm_r2_e_r10
  · exact sm_b sm_r2_pe_m8
  · exact sm_b sm_r3_e_8
  · exact sm_b sm_call_8
  · exact sm_b sm_exit
theorem size_SM3 (k : Int) (k1 : -2147483648 ≤ k) (k2 : k ≤ 2147483647) : (CC_SM3 k).size ≤ 2000 := by
  have := len_nb k k1 k2
  have z0 : (⟨#[42, 40, 117, 54, 52, 32, 42, 41, 40, 114, 49, 48, 32, 45, 56, 41, 32, 61, 32]⟩ : ByteArray).size = 19 := rfl
  have z1 : (⟨#[59, 32, 114, 49, 32, 61, 32, 109, 97, 112, 32, 48, 59, 32, 114, 50, 32, 61, 32, 114, 49, 48, 59, 32, 114, 50, 32, 43, 61, 32, 45, 56, 59, 32, 114, 51, 32, 61, 32, 56, 59, 32, 99, 97, 108, 108, 32, 56, 59, 32, 101, 120, 105, 116]⟩ : ByteArray).size = 54 := rfl
  simp only [CC_SM3, ByteArray.size_append, B_size, z0, z1]
  omega
noncomputable def rTx_SM3 (k : Int) : Row := ⟨[.c (.y 423503 (.v (.string (CC_SM3 k))))], [], .c (.h 0), [.lr 5 8 [.w .u8 122#8, .w .u8 10#8, .w .u8 0#8, .v (.int .i16 (-8)), .y 201 (.v (.int .i32 k)), .w .u8 24#8, .w .u8 1#8, .w .u8 1#8, .v (.int .i16 0), .v (.int .i32 0), .w .u8 0#8, .w .u8 0#8, .w .u8 0#8, .v (.int .i16 0), .v (.int .i32 0), .w .u8 191#8, .w .u8 2#8, .w .u8 10#8, .v (.int .i16 0), .v (.int .i32 0), .w .u8 7#8, .w .u8 2#8, .w .u8 0#8, .v (.int .i16 0), .v (.int .i32 (-8)), .w .u8 183#8, .w .u8 3#8, .w .u8 0#8, .v (.int .i16 0), .v (.int .i32 8), .w .u8 133#8, .w .u8 0#8, .w .u8 0#8, .v (.int .i16 0), .v (.int .i32 8), .w .u8 149#8, .w .u8 0#8, .w .u8 0#8, .v (.int .i16 0), .v (.int .i32 0)]]⟩
theorem gTx_SM3 (k : Int) (k1 : -2147483648 ≤ k) (k2 : k ≤ 2147483647) : RowG (sumT [.any] false [.c .s] [] (@Fp.F_lines ⟨LK_SM3 k k1 k2⟩)) (rTx_SM3 k) :=
  gTxt (LK_SM3 k k1 k2) (CCe_SM3 k) (by simp [ps_SM3]) (sem_SM3 k) (Nat.le_trans (size_SM3 k k1 k2) (by decide)) (all_SM3 k k1 k2) rfl (.row rfl rfl rfl) rfl
noncomputable def D14_SM3 (k : Int) : Summ := rowsS S_v43 [rTx_SM3 k]
theorem k14_SM3 (k : Int) (k1 : -2147483648 ≤ k) (k2 : k ≤ 2147483647) : SummOk Kn Tryz.prog 43 (D14_SM3 k) := rows_ok (@Fp.ok_lines ⟨LK_SM3 k k1 k2⟩) ok_v43 (fun r hr => by rw [List.mem_singleton] at hr; subst hr; exact gTx_SM3 k k1 k2)
end Go.Proofs.YtfbldjaepenfpaaGreatDoor
