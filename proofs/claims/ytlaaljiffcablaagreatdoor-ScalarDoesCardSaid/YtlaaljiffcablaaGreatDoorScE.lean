/-
  Shapes of the functions that turn bytes.
-/
import Derived.Test.YtlaaljiffcablaaGreatDoorScG
import Derived.Test.YtlaaljiffcablaaGreatDoorScD
namespace Go.Sc
open Go Go.Sy Go.Tn
set_option linter.unusedVariables false
def gW16 (F : BitVec 16 → AV) : GG
  | [.p (.one (.w .u16 a))], [] => some (F a, [])
  | _, _ => none
def gW32 (F : BitVec 32 → AV) : GG
  | [.p (.one (.w .u32 a))], [] => some (F a, [])
  | _, _ => none
def hIU (F : Int → BitVec 64 → AV) : GG
  | [.p (.one (.v (.int .i64 n))), .p (.one (.w .u64 a))], [] => some (F n a, [])
  | _, _ => none
def hIBU (F : Int → Bool → BitVec 64 → AV) : GG
  | [.p (.one (.v (.int .i64 n))), .p (.one (.v (.bool b))), .p (.one (.w .u64 a))], [] => some (F n b a, [])
  | _, _ => none
def hIBBS (F : Int → Bool → Bool → Sc → AV) : GG
  | [.p (.one (.v (.int .i64 n))), .p (.one (.v (.bool b))), .p (.one (.v (.bool t))), .p (.many [.w .u64 a1, .w .u64 a2, .w .u64 a3, .w .u64 a4, .v (.int .i64 a5), .v (.int .i64 a6)])], [] => some (F n b t ⟨⟨a1, a2⟩, a3, a4, a5, a6⟩, [])
  | _, _ => none
def hC2 (F : BitVec 64 → Int → Bool → AV) : GG
  | [.p (.one (.w .u64 a)), .p (.one (.p 0 0)), .p (.one (.p 1 0))], [[.v (.int .i64 n)], [.v (.bool b)]] => some (F a n b, [[.v (.int .i64 n)], [.v (.bool b)]])
  | _, _ => none
def hC1 (F : BitVec 64 → Int → AV) : GG
  | [.p (.one (.w .u64 a)), .p (.one (.p 0 0))], [[.v (.int .i64 n)]] => some (F a n, [[.v (.int .i64 n)]])
  | _, _ => none
section
variable {args : List AV} {H H' : Hp} {v : AV}
theorem gW16_inv {F : BitVec 16 → AV} (h : gW16 F args H = some (v, H')) : ∃ a, args = [.p (.one (.w .u16 a))] ∧ H = [] ∧ v = F a ∧ H' = [] := by
  unfold gW16 at h; split at h
  · cases h; exact ⟨_, rfl, rfl, rfl, rfl⟩
  · cases h
theorem gW32_inv {F : BitVec 32 → AV} (h : gW32 F args H = some (v, H')) : ∃ a, args = [.p (.one (.w .u32 a))] ∧ H = [] ∧ v = F a ∧ H' = [] := by
  unfold gW32 at h; split at h
  · cases h; exact ⟨_, rfl, rfl, rfl, rfl⟩
  · cases h
theorem hIU_inv {F : Int → BitVec 64 → AV} (h : hIU F args H = some (v, H')) : ∃ n a, args = [iA n, uA a] ∧ H = [] ∧ v = F n a ∧ H' = [] := by
  unfold hIU at h; split at h
  · cases h; exact ⟨_, _, rfl, rfl, rfl, rfl⟩
  · cases h
theorem hIBU_inv {F : Int → Bool → BitVec 64 → AV} (h : hIBU F args H = some (v, H')) : ∃ n b a, args = [iA n, bA b, uA a] ∧ H = [] ∧ v = F n b a ∧ H' = [] := by
  unfold hIBU at h; split at h
  · cases h; exact ⟨_, _, _, rfl, rfl, rfl, rfl⟩
  · cases h
theorem hIBBS_inv {F : Int → Bool → Bool → Sc → AV} (h : hIBBS F args H = some (v, H')) : ∃ n b t a, args = [iA n, bA b, bA t, sA a] ∧ H = [] ∧ v = F n b t a ∧ H' = [] := by
  unfold hIBBS at h; split at h
  · cases h; exact ⟨_, _, _, ⟨⟨_, _⟩, _, _, _, _⟩, rfl, rfl, rfl, rfl⟩
  · cases h
theorem hC2_inv {F : BitVec 64 → Int → Bool → AV} (h : hC2 F args H = some (v, H')) : ∃ a n b, args = [uA a, .p (.one (.p 0 0)), .p (.one (.p 1 0))] ∧ H = [[.v (.int .i64 n)], [.v (.bool b)]] ∧ v = F a n b ∧ H' = H := by
  unfold hC2 at h; split at h
  · cases h; exact ⟨_, _, _, rfl, rfl, rfl, rfl⟩
  · cases h
theorem hC1_inv {F : BitVec 64 → Int → AV} (h : hC1 F args H = some (v, H')) : ∃ a n, args = [uA a, .p (.one (.p 0 0))] ∧ H = [[.v (.int .i64 n)]] ∧ v = F a n ∧ H' = H := by
  unfold hC1 at h; split at h
  · cases h; exact ⟨_, _, rfl, rfl, rfl, rfl⟩
  · cases h
end
end Go.Sc
