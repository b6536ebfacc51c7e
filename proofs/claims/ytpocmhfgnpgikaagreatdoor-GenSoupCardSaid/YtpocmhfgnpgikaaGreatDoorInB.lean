/-
  What the package and its reference know of an operation is the same (written by our own gen_inb.py).
-/
import Derived.Test.YtpocmhfgnpgikaaGreatDoorInA
import Derived.Test.YtpocmhfgnpgikaaGreatDoorInT
namespace Go.Proofs.YtpocmhfgnpgikaaGreatDoor
open Go Go.Sy Go.Sz Go.In Go.Proofs.YtpocmhfgnpgikaaGreatDoor
set_option linter.unusedVariables false
set_option linter.unusedSimpArgs false
set_option linter.constructorNameAsVariable false
set_option maxRecDepth 100000
def sL : List (Bool × Bool × Bool × Bool) := [(true, false, false, true), (false, true, false, true), (false, false, true, false), (false, false, false, false)]
def nL : List (Bool × Bool × Bool × Bool) := [(true, false, false, false), (false, true, false, false), (false, false, true, false), (false, false, false, true), (false, false, false, false)]
theorem s_mem (s : BitVec 8) : (s == BitVec.ofInt 8 0, s == BitVec.ofInt 8 1, s == BitVec.ofInt 8 4, s.ule (BitVec.ofInt 8 1)) ∈ sL := by
  revert s; decide +kernel
theorem n_mem (n : Int) : (n == 0, n == 16, n == 32, n == 64) ∈ nL := by
  by_cases h0 : n = 0
  · subst h0; decide
  by_cases h1 : n = 16
  · subst h1; decide
  by_cases h2 : n = 32
  · subst h2; decide
  by_cases h3 : n = 64
  · subst h3; decide
  rw [beq_false_of_ne h0, beq_false_of_ne h1, beq_false_of_ne h2, beq_false_of_ne h3]; decide
theorem rk_eq (o d s : BitVec 8) (f n : Int) : B_rknown o d s f n = B_known o d s f n := by
  unfold B_rknown B_known
  rw [tbB_bval, tbB_bval]
  simp only [E_known, E_rknown, bval, bne]
  have hs := s_mem s
  have hn := n_mem n
  generalize (s == BitVec.ofInt 8 0) = s0 at *
  generalize (s == BitVec.ofInt 8 1) = s1 at *
  generalize (s == BitVec.ofInt 8 4) = s4 at *
  generalize s.ule (BitVec.ofInt 8 1) = u at *
  generalize (n == 0) = n0 at *
  generalize (n == 16) = n16 at *
  generalize (n == 32) = n32 at *
  generalize (n == 64) = n64 at *
  generalize (f == 0) = f0 at *
  generalize (d == BitVec.ofInt 8 0) = d0 at *
  clear s n f d
  revert f0 d0
  revert n0 n16 n32 n64
  revert s0 s1 s4 u
  revert o
  decide +kernel
theorem rw_eq (o d s : BitVec 8) (f n : Int) : B_rwrites o d s f n = B_writes o d s f n := by
  unfold B_rwrites B_writes
  rw [tbB_bval, tbB_bval]
  simp only [E_writes, E_rwrites, bval]
  clear s n f d
  revert o
  decide +kernel
theorem kn_facts (o d s : BitVec 8) (f n : Int) (h : B_known o d s f n = true) : B_rhelper o d s f n = (o == BitVec.ofInt 8 133 && !(s == BitVec.ofInt 8 1)) ∧ B_rnames o d s f n = namesB (o, d, s, f, n, ()) ∧
    ((o % BitVec.ofInt 8 8 == BitVec.ofInt 8 5 && o / BitVec.ofInt 8 16 == BitVec.ofInt 8 9) = (o == BitVec.ofInt 8 149)) ∧ ((o % BitVec.ofInt 8 8 == BitVec.ofInt 8 5 && o / BitVec.ofInt 8 16 == BitVec.ofInt 8 0) = (o == BitVec.ofInt 8 5)) ∧
    ((o % BitVec.ofInt 8 8 == BitVec.ofInt 8 5 && o / BitVec.ofInt 8 16 == BitVec.ofInt 8 0) || B_rcmp o d s f n) = jumpsB o := by
  unfold B_known at h
  unfold B_rhelper B_rnames B_rcmp
  rw [tbB_bval] at *
  rw [tbB_bval, tbB_bval]
  simp only [E_known, E_rhelper, E_rnames, E_rcmp, bval, bne, namesB] at *
  have hs := s_mem s
  have hn := n_mem n
  generalize (s == BitVec.ofInt 8 0) = s0 at *
  generalize (s == BitVec.ofInt 8 1) = s1 at *
  generalize (s == BitVec.ofInt 8 4) = s4 at *
  generalize s.ule (BitVec.ofInt 8 1) = u at *
  generalize (n == 0) = n0 at *
  generalize (n == 16) = n16 at *
  generalize (n == 32) = n32 at *
  generalize (n == 64) = n64 at *
  generalize (f == 0) = f0 at *
  generalize (d == BitVec.ofInt 8 0) = d0 at *
  clear s n f d
  revert f0 d0
  revert n0 n16 n32 n64
  revert s0 s1 s4 u
  revert o
  decide +kernel
end Go.Proofs.YtpocmhfgnpgikaaGreatDoor
