/-
  A part of the proof (written by our own tools).
-/
import Derived.Test.YtihjfikdpodffaaGreatDoorFtQ
namespace Go.Proofs.YtihjfikdpodffaaGreatDoor
open Go Go.Sy Go.Sz Go.Vy
set_option linter.unusedVariables false
set_option linter.unusedSimpArgs false
set_option maxRecDepth 1000000
open Go.Fa
noncomputable def OB (a k : Int) : List Ob := [.row (.cons (.i .i64) (.cons (.i .i64) (.cons (.i .i64) (.cons (.i .i64) (.cons .b (.cons (.i .i64) .nil)))))) [(3, 4, 4, 4, false, 0, ())], .lr 2 2 [.v (.string (ByteArray.mk #[109, 97, 105, 110])), .h 2, .v (.string (ByteArray.mk #[110, 101, 120, 116])), .h 3], .lr 5 6 [.w .u8 24#8, .w .u8 2#8, .w .u8 1#8, .v (.int .i16 0), .v (.int .i32 0), .w .u8 0#8, .w .u8 0#8, .w .u8 0#8, .v (.int .i16 0), .v (.int .i32 0), .w .u8 183#8, .w .u8 3#8, .w .u8 0#8, .v (.int .i16 0), .y 101 (.v (.int .i32 a)), .w .u8 133#8, .w .u8 0#8, .w .u8 0#8, .v (.int .i16 0), .v (.int .i32 6), .w .u8 183#8, .w .u8 0#8, .w .u8 0#8, .v (.int .i16 0), .y 201 (.v (.int .i32 k)), .w .u8 149#8, .w .u8 0#8, .w .u8 0#8, .v (.int .i16 0), .v (.int .i32 0)], .row (.cons (.w .u8) (.cons (.w .u8) (.cons (.w .u8) (.cons (.i .i16) (.cons (.i .i32) .nil))))) [(113#8, 0#8, 1#8, 0, 0, ()), (149#8, 0#8, 0#8, 0, 0, ())]]
noncomputable def OV : AV := .p (.many [.v (.slice none 0 0), .h 0, .h 1])
noncomputable def CC (a k : Int) : ByteArray := (((((⟨#[114, 50, 32, 61, 32, 109, 97, 112, 32, 48, 59, 32, 114, 51, 32, 61, 32]⟩ : ByteArray) ++ B (nb a)) ++ (⟨#[59, 32, 99, 97, 108, 108, 32, 54, 59, 32, 114, 48, 32, 61, 32]⟩ : ByteArray)) ++ B (nb k)) ++ (⟨#[59, 32, 101, 120, 105, 116]⟩ : ByteArray))
noncomputable def rNa (a : Int) : Row := ⟨[.c (.y 1 (.v (.int .i64 a)))], [], .c (.y 5003 (.v (.string (B (nb a))))), []⟩
noncomputable def rNk (k : Int) : Row := ⟨[.c (.y 69 (.v (.int .i64 k)))], [], .c (.y 5005 (.v (.string (B (nb k))))), []⟩
noncomputable def rTx (a k : Int) : Row := ⟨[.c (.y 83397359 (.v (.string (CC a k))))], [], .c (.h 0), [.lr 5 6 [.w .u8 24#8, .w .u8 2#8, .w .u8 1#8, .v (.int .i16 0), .v (.int .i32 0), .w .u8 0#8, .w .u8 0#8, .w .u8 0#8, .v (.int .i16 0), .v (.int .i32 0), .w .u8 183#8, .w .u8 3#8, .w .u8 0#8, .v (.int .i16 0), .y 101 (.v (.int .i32 a)), .w .u8 133#8, .w .u8 0#8, .w .u8 0#8, .v (.int .i16 0), .v (.int .i32 6), .w .u8 183#8, .w .u8 0#8, .w .u8 0#8, .v (.int .i16 0), .y 201 (.v (.int .i32 k)), .w .u8 149#8, .w .u8 0#8, .w .u8 0#8, .v (.int .i16 0), .v (.int .i32 0)]]⟩
noncomputable def D13 (a k : Int) : Summ := rowsS S_v13 [rNa a, rNk k]
noncomputable def D14 (a k : Int) : Summ := rowsS S_v14 [rTx a k]
noncomputable def A12 (a k : Int) : Summ := mkS ((14, D14 a k) :: L_v3) Tryz.f12
noncomputable def A5 (a k : Int) : Summ := mkS ((13, D13 a k) :: (12, A12 a k) :: (14, D14 a k) :: L_v3) Tryz.f5
theorem CC_eq (a k : Int) : CC a k = B (joinC 59 (psT a k)) := by
  unfold CC
  rw [show (⟨#[114, 50, 32, 61, 32, 109, 97, 112, 32, 48, 59, 32, 114, 51, 32, 61, 32]⟩ : ByteArray) = B (lnM ++ [59, 32] ++ [114, 51, 32, 61, 32]) from rfl, show (⟨#[59, 32, 99, 97, 108, 108, 32, 54, 59, 32, 114, 48, 32, 61, 32]⟩ : ByteArray) = B ([59, 32] ++ lnC ++ [59, 32] ++ [114, 48, 32, 61, 32]) from rfl, show (⟨#[59, 32, 101, 120, 105, 116]⟩ : ByteArray) = B ([59, 32] ++ lnE) from rfl]
  rw [B_append, B_append, B_append, B_append]
  congr 1
  simp only [psT, joinC, lnK, List.append_assoc, List.cons_append, List.nil_append]
theorem semi_T (a k : Int) (ha1 : -2147483648 ≤ a) (ha2 : a ≤ 2147483647) (hk1 : -2147483648 ≤ k) (hk2 : k ≤ 2147483647) : ∀ p ∈ psT a k, (59 : UInt8) ∉ p ∧ (10 : UInt8) ∉ p := by
  have nl : ∀ d x, d ≠ 10 → (10 : UInt8) ∉ lnK d x := fun d x hd hc => by
    rcases List.mem_append.1 hc with hc | hc
    · simp only [List.mem_cons, List.not_mem_nil, or_false] at hc
      rcases hc with hc | hc | hc | hc | hc
      · exact absurd hc (by decide)
      · exact hd hc.symm
      · exact absurd hc (by decide)
      · exact absurd hc (by decide)
      · exact absurd hc (by decide)
    · exact absurd hc (nb_no (by decide) (by decide))
  have b32 : ∀ l : List UInt8, (59 : UInt8) ∉ l ∧ (10 : UInt8) ∉ l → (59 : UInt8) ∉ (32 :: l) ∧ (10 : UInt8) ∉ (32 :: l) := fun l h =>
    ⟨fun hc => (List.mem_cons.1 hc).elim (fun e => absurd e (by decide)) h.1, fun hc => (List.mem_cons.1 hc).elim (fun e => absurd e (by decide)) h.2⟩
  intro p hp
  simp only [psT, List.mem_cons, List.not_mem_nil, or_false] at hp
  rcases hp with rfl | rfl | rfl | rfl | rfl
  · exact ⟨by decide, by decide⟩
  · exact b32 _ ⟨(Lt_K 51 (by decide) a ha1 ha2).semi, nl 51 a (by decide)⟩
  · exact ⟨by decide, by decide⟩
  · exact b32 _ ⟨(Lt_K 48 (by decide) k hk1 hk2).semi, nl 48 k (by decide)⟩
  · exact ⟨by decide, by decide⟩
theorem size_T (a k : Int) (ha1 : -2147483648 ≤ a) (ha2 : a ≤ 2147483647) (hk1 : -2147483648 ≤ k) (hk2 : k ≤ 2147483647) : (joinC 59 (psT a k)).length ≤ 200 := by
  have h1 := len_nba a ha1 ha2
  have h2 := len_nba k hk1 hk2
  simp only [psT, joinC, lnK, lnM, lnC, lnE, List.length_append, List.length_cons, List.length_nil]
  omega
theorem len_join : ∀ ps : List (List UInt8), (joinC 59 ps).length = (join ps).length
  | [] => rfl
  | [p] => rfl
  | p :: q :: l => by
    have := len_join (q :: l)
    simp only [joinC, join, List.length_append, List.length_cons]; omega
theorem gTx (a k : Int) (ha1 : -2147483648 ≤ a) (ha2 : a ≤ 2147483647) (hk1 : -2147483648 ≤ k) (hk2 : k ≤ 2147483647) :
    RowG (sumT [.any] false [.c .s] [] (@Fp.F_lines ⟨LKt a k ha1 ha2 hk1 hk2⟩)) (rTx a k) := by
  letI : Inhabited Fp.LK := ⟨LKt a k ha1 ha2 hk1 hk2⟩
  refine ⟨rfl, .c (.h 0), [.row insT (slT a k)], ?_, rfl, rfl, rfl, rfl, .cons (.row rfl rfl rfl) .nil⟩
  show (ckP ((CC a k).size ≤ 65536 ∧ (pv Fp.lnV ((CC a k).size + 1) (Fp.txt (CC a k)) 0 0).isSome = true) (.ret (AV.c (.h 0), [Ob.row insT ((pv Fp.lnV ((CC a k).size + 1) (Fp.txt (CC a k)) 0 0).getD [])]))).run = _
  have hs := semi_T a k ha1 ha2 hk1 hk2
  have hp : pv Fp.lnV ((CC a k).size + 1) (Fp.txt (CC a k)) 0 0 = some (slT a k) := by
    rw [CC_eq, txt_B, sub_join (fun p hp => (hs p hp).1), B_size, len_join]
    have := pv_pieces Fp.lnV (psT a k) [] (by simp [psT]) (fun p hp => (hs p hp).2)
    simp only [List.nil_append, List.length_nil] at this
    rw [this]
    exact all_T a k ha1 ha2 hk1 hk2
  rw [hp, ckP_true ⟨by rw [CC_eq, B_size]; have := size_T a k ha1 ha2 hk1 hk2; omega, rfl⟩]
  rfl
theorem gN (m m2 : Nat) (a : Int) (h1 : -2147483648 ≤ a) (h2 : a ≤ 2147483647) : RowG (sumT [.any] false [.c (.i .i64)] [] Fp.F_n17) ⟨[.c (.y m (.v (.int .i64 a)))], [], .c (.y m2 (.v (.string (B (nb a))))), []⟩ := by
  refine ⟨rfl, .c (.v (.string (B (nb a)))), [], ?_, rfl, rfl, rfl, rfl, .nil⟩
  show (ckP (-9223372036854775808 ≤ a ∧ a ≤ 9223372036854775807) (.ret (AV.c (.v (.string (B (nb a)))), ([] : List Ob)))).run = _
  rw [ckP_true ⟨by omega, by omega⟩]; rfl
theorem okA5 (a k : Int) (ha1 : -2147483648 ≤ a) (ha2 : a ≤ 2147483647) (hk1 : -2147483648 ≤ k) (hk2 : k ≤ 2147483647) : SummOk Kn Tryz.prog 5 (A5 a k) := by
  have k14 : SummOk Kn Tryz.prog 14 (D14 a k) := rows_ok (@Fp.ok_lines ⟨LKt a k ha1 ha2 hk1 hk2⟩) ok_v14 (fun r hr => by rw [List.mem_singleton] at hr; subst hr; exact gTx a k ha1 ha2 hk1 hk2)
  have k13 : SummOk Kn Tryz.prog 13 (D13 a k) := rows_ok Fp.ok_n17 ok_v13 (fun r hr => by
    simp only [List.mem_cons, List.not_mem_nil, or_false] at hr
    rcases hr with rfl | rfl
    · exact gN _ _ a ha1 ha2
    · exact gN _ _ k hk1 hk2)
  exact sumE_ok (tok_cl (lk_cons k13 (lk_cons (sumE_ok (tok_cl (lk_cons k14 tok_v3)) Tryz.checked.mixed Tryz.func12 (by kernel_rfl) (by rfl) 400 []) (lk_cons k14 tok_v3)))) Tryz.checked.mixed Tryz.func5 (by kernel_rfl) (by rfl) 400 []
theorem c5 (a k : Int) (ha1 : -2147483648 ≤ a) (ha2 : a ≤ 2147483647) (hk1 : -2147483648 ≤ k) (hk2 : k ≤ 2147483647) : allTrue [((17 : Nat) + (Fa.B (nb a)).size).ble (9223372036854775807 : Nat),
  (({ data := { toList := [(114 : UInt8), (50 : UInt8), (32 : UInt8), (61 : UInt8), (32 : UInt8), (109 : UInt8), (97 : UInt8), (112 : UInt8), (32 : UInt8), (48 : UInt8), (59 : UInt8), (32 : UInt8), (114 : UInt8), (51 : UInt8), (32 : UInt8), (61 : UInt8), (32 : UInt8)] } } ++ Fa.B (nb a)).size + (15 : Nat)).ble (9223372036854775807 : Nat),
  (({ data := { toList := [(114 : UInt8), (50 : UInt8), (32 : UInt8), (61 : UInt8), (32 : UInt8), (109 : UInt8), (97 : UInt8), (112 : UInt8), (32 : UInt8), (48 : UInt8), (59 : UInt8), (32 : UInt8), (114 : UInt8), (51 : UInt8), (32 : UInt8), (61 : UInt8), (32 : UInt8)] } } ++ Fa.B (nb a) ++ { data := { toList := [(59 : UInt8), (32 : UInt8), (99 : UInt8), (97 : UInt8), (108 : UInt8), (108 : UInt8), (32 : UInt8), (54 : UInt8), (59 : UInt8), (32 : UInt8), (114 : UInt8), (48 : UInt8), (32 : UInt8), (61 : UInt8), (32 : UInt8)] } }).size + (Fa.B (nb k)).size).ble (9223372036854775807 : Nat),
  (({ data := { toList := [(114 : UInt8), (50 : UInt8), (32 : UInt8), (61 : UInt8), (32 : UInt8), (109 : UInt8), (97 : UInt8), (112 : UInt8), (32 : UInt8), (48 : UInt8), (59 : UInt8), (32 : UInt8), (114 : UInt8), (51 : UInt8), (32 : UInt8), (61 : UInt8), (32 : UInt8)] } } ++ Fa.B (nb a) ++ { data := { toList := [(59 : UInt8), (32 : UInt8), (99 : UInt8), (97 : UInt8), (108 : UInt8), (108 : UInt8), (32 : UInt8), (54 : UInt8), (59 : UInt8), (32 : UInt8), (114 : UInt8), (48 : UInt8), (32 : UInt8), (61 : UInt8), (32 : UInt8)] } } ++ Fa.B (nb k)).size + (6 : Nat)).ble (9223372036854775807 : Nat)] = true := by
  have h1 := len_nba a ha1 ha2
  have h2 := len_nba k hk1 hk2
  have z1 : (⟨#[114, 50, 32, 61, 32, 109, 97, 112, 32, 48, 59, 32, 114, 51, 32, 61, 32]⟩ : ByteArray).size = 17 := rfl
  have z2 : (⟨#[59, 32, 99, 97, 108, 108, 32, 54, 59, 32, 114, 48, 32, 61, 32]⟩ : ByteArray).size = 15 := rfl
  have z3 : (⟨#[59, 32, 101, 120, 105, 116]⟩ : ByteArray).size = 6 := rfl
  refine at1 ?_ (at1 ?_ (at1 ?_ (at1 ?_ at0))) <;>
  · refine Nat.ble_eq_true_of_le ?_
    simp only [ByteArray.size_append, B_size, z1, z2, z3]
    omega
theorem t5 (a k : Int) (ha1 : -2147483648 ≤ a) (ha2 : a ≤ 2147483647) (hk1 : -2147483648 ≤ k) (hk2 : k ≤ 2147483647) : ((A5 a k).g [.c (.y 1 (.v (.int .i64 a))), .c (.y 69 (.v (.int .i64 k)))] []).run = some (OV, OB a k) :=
  Tree.run_of [] (by kernel_rfl) (by kernel_rfl) (c5 a k ha1 ha2 hk1 hk2)
end Go.Proofs.YtihjfikdpodffaaGreatDoor
