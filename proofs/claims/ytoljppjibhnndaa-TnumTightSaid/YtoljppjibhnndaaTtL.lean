/-
  The law of the tightest tnums (written by our own gen_ttl.py).
-/
import Derived.Test.YtoljppjibhnndaaTtK
namespace Go.Proofs.Ytoljppjibhnndaa.tt
open Go Go.Sy Go.Sz Go.Tn Go.Proofs.Ytoljppjibhnndaa
set_option linter.unusedVariables false
set_option linter.unusedSimpArgs false
set_option linter.constructorNameAsVariable false
set_option maxRecDepth 100000

/-- the places' bits -/
def orP (l : List (BitVec 8)) (m : BitVec 64) : BitVec 64 := l.foldl (fun m p => m ||| BitVec.ofInt 64 1 <<< (p % BitVec.ofInt 8 64).toNat) m
/-- what the law makes of two numbers -/
def opI (op : Int) : Nat := ((IntKind.i64.wrap (op.tmod 8 + 8)).tmod 8).toNat
def opV (op k : Int) (x y : BitVec 64) : BitVec 64 := [x + y, x - y, x &&& y, x ||| y, x ^^^ y, x <<< k.toNat, x >>> k.toNat, BitVec.ofInt 64 (x.toInt.fdiv (2 ^ min k.toNat 64))].getD (opI op) (BitVec.ofNat 64 0)
def madeRow (op k : Int) (x : BitVec 64) (y o : U64s) : U64s := o ++ y.map fun b => (opV op k x b.1, ())
def made (op k : Int) (x y o : U64s) : U64s := x.foldl (fun o a => madeRow op k a.1 y o) o
theorem rank_le {c : List (BitVec 64)} {s : BitVec 64} (h : s ∈ c) : rank c s + 1 ≤ c.length := by
  unfold rank
  induction c with
  | nil => cases h
  | cons x l ih =>
    have all : (l.filter fun x => decide (x.toNat < s.toNat)).length ≤ l.length := List.length_filter_le _ _
    rw [List.filter_cons]
    rcases List.mem_cons.1 h with e | e
    · subst e
      rw [if_neg (by simp)]; simp; omega
    · have := ih e
      split <;> simp <;> omega
def bitsOf (l : List (BitVec 8)) : List (BitVec 64) := l.map fun p => 1#64 <<< (p % BitVec.ofInt 8 64).toNat
theorem orP_bits : ∀ (l : List (BitVec 8)) (m : BitVec 64), orP l m = m ||| (bitsOf l).foldr (· ||| ·) (BitVec.ofInt 64 0)
  | [], m => by
    show m = m ||| BitVec.ofInt 64 0
    exact (BitVec.or_zero).symm
  | p :: l, m => by
    show orP l (m ||| BitVec.ofInt 64 1 <<< (p % BitVec.ofInt 8 64).toNat) = _
    rw [orP_bits l, BitVec.or_assoc]; rfl
theorem all_few (v : BitVec 64) (p q r s : BitVec 8) : (downs v (orP [p, q, r, s] (BitVec.ofInt 64 0)) (orP [p, q, r, s] (BitVec.ofInt 64 0))).length ≤ 16 := by
  have hm : orP [p, q, r, s] (BitVec.ofInt 64 0) = (bitsOf [p, q, r, s]).foldr (· ||| ·) (BitVec.ofInt 64 0) := by
    rw [orP_bits]; exact BitVec.zero_or
  have hall : ∀ u, u &&& orP [p, q, r, s] (BitVec.ofInt 64 0) = u → u ∈ combos (bitsOf [p, q, r, s]) := fun u hu => combos_all _ _ (fun x hx => by
    obtain ⟨b, _, rfl⟩ := List.mem_map.1 hx
    exact ⟨_, by
      rw [BitVec.toNat_umod, show (BitVec.ofInt 8 64).toNat = 64 from rfl]
      exact Nat.mod_lt _ (by decide), rfl⟩) (by rw [← hm]; exact hu)
  have h1 := downs_len (v := v) hall _ (orP [p, q, r, s] (BitVec.ofInt 64 0)) (Nat.le_refl _) BitVec.and_self
  have h2 := rank_le (hall _ BitVec.and_self)
  rw [combos_len] at h2
  have h3 : 2 ^ (bitsOf [p, q, r, s]).length = 16 := rfl
  omega
theorem made_eq (op k : Int) (y : U64s) : ∀ (x o : U64s), made op k x y o = o ++ x.flatMap fun a => y.map fun b => (opV op k a.1 b.1, ())
  | [], o => by simp [made]
  | a :: x, o => by
    show made op k x y (madeRow op k a.1 y o) = _
    rw [made_eq op k y x, madeRow, List.flatMap_cons, List.append_assoc]
theorem made_len (op k : Int) (y : U64s) : ∀ (x o : U64s), (made op k x y o).length = o.length + x.length * y.length
  | [], o => by simp [made]
  | a :: x, o => by
    show (made op k x y (madeRow op k a.1 y o)).length = _
    rw [made_len op k y x, madeRow, List.length_append, List.length_map, List.length_cons, Nat.succ_mul]; omega
theorem made_mem {op k : Int} {x y : U64s} {z : BitVec 64 × Unit} : z ∈ made op k x y [] ↔ ∃ a ∈ x, ∃ b ∈ y, z = (opV op k a.1 b.1, ()) := by
  rw [made_eq, List.nil_append, List.mem_flatMap]
  constructor
  · rintro ⟨a, ha, h⟩
    obtain ⟨b, hb, rfl⟩ := List.mem_map.1 h
    exact ⟨a, ha, b, hb, rfl⟩
  · rintro ⟨a, ha, b, hb, rfl⟩
    exact ⟨a, ha, List.mem_map.2 ⟨b, hb, rfl⟩⟩
theorem allOf_pos (t : Tn) : 0 < (allOf t).length := downs_pos _ _ _
theorem tight_made {op k : Int} {f F} (hf : ∀ x y, opV op k x y = f x y) (q : Op2 f F) {s t : Tn} (hs : ok s = true) (ht : ok t = true) : tightOf (made op k (allOf s) (allOf t) []) = F s t := by
  refine tight_of (q.good s t hs ht) ?_ (fun z hz => ?_) (fun i hi hm => ?_)
  · rw [made_len, List.length_nil, Nat.zero_add]
    exact Nat.mul_pos (allOf_pos s) (allOf_pos t)
  · obtain ⟨a, ha, b, hb, rfl⟩ := made_mem.1 hz
    rw [hf]
    exact q.sound s t hs ht _ _ ((allOf_mem hs).1 ha) ((allOf_mem ht).1 hb)
  · obtain ⟨x, y, x', y', h1, h2, h3, h4, h5⟩ := q.tight s t hs ht i hi hm
    refine ⟨(f x y, ()), made_mem.2 ⟨(x, ()), (allOf_mem hs).2 h1, (y, ()), (allOf_mem ht).2 h2, by rw [hf]⟩, (f x' y', ()), made_mem.2 ⟨(x', ()), (allOf_mem hs).2 h3, (y', ()), (allOf_mem ht).2 h4, by rw [hf]⟩, h5⟩
theorem op1_op2 {f F} (q : Op1 f F) : Op2 (fun x _ => f x) (fun a _ => F a) where
  good a _ ha _ := q.good a ha
  sound a _ ha _ x _ hx _ := q.sound a ha x hx
  tight a b ha _ i hi hm := by
    obtain ⟨x, x', h1, h2, h3⟩ := q.tight a ha i hi hm
    exact ⟨x, b.v, x', b.v, h1, mem_v b, h2, mem_v b, h3⟩
theorem opI_range (op : Int) : opI op < 8 := by
  have := times_range (n := op) (m := 8) (by decide) (by decide)
  unfold times at this
  unfold opI
  omega
def gotL (s t : Tn) (n : Int) : List Tn := [add s t, sub s t, Tn.and s t, Tn.or s t, Tn.xor s t, lsh s n, rsh s n, arsh s n true]
theorem tt_fin (op n : Int) {s t : Tn} (hs : ok s = true) (ht : ok t = true) :
    ([(add s t).v, (sub s t).v, (Tn.and s t).v, (Tn.or s t).v, (Tn.xor s t).v, (lsh s n).v, (rsh s n).v, (arsh s n true).v].getD (opI op) (BitVec.ofNat 64 0) == (tightOf (made op (times n 64) (allOf s) (allOf t) [])).v &&
    ([(add s t).m, (sub s t).m, (Tn.and s t).m, (Tn.or s t).m, (Tn.xor s t).m, (lsh s n).m, (rsh s n).m, (arsh s n true).m].getD (opI op) (BitVec.ofNat 64 0) == (tightOf (made op (times n 64) (allOf s) (allOf t) [])).m && true)) = true := by
  have h8 := opI_range op
  have key : ∀ F : Tn, tightOf (made op (times n 64) (allOf s) (allOf t) []) = F →
      [(add s t).v, (sub s t).v, (Tn.and s t).v, (Tn.or s t).v, (Tn.xor s t).v, (lsh s n).v, (rsh s n).v, (arsh s n true).v].getD (opI op) (BitVec.ofNat 64 0) = F.v →
      [(add s t).m, (sub s t).m, (Tn.and s t).m, (Tn.or s t).m, (Tn.xor s t).m, (lsh s n).m, (rsh s n).m, (arsh s n true).m].getD (opI op) (BitVec.ofNat 64 0) = F.m →
      ([(add s t).v, (sub s t).v, (Tn.and s t).v, (Tn.or s t).v, (Tn.xor s t).v, (lsh s n).v, (rsh s n).v, (arsh s n true).v].getD (opI op) (BitVec.ofNat 64 0) == (tightOf (made op (times n 64) (allOf s) (allOf t) [])).v &&
    ([(add s t).m, (sub s t).m, (Tn.and s t).m, (Tn.or s t).m, (Tn.xor s t).m, (lsh s n).m, (rsh s n).m, (arsh s n true).m].getD (opI op) (BitVec.ofNat 64 0) == (tightOf (made op (times n 64) (allOf s) (allOf t) [])).m && true)) = true := fun F h1 h2 h3 => by
    rw [h1, h2, h3]; simp
  have hv : ∀ x y, opV op (times n 64) x y = [x + y, x - y, x &&& y, x ||| y, x ^^^ y, x <<< (times n 64).toNat, x >>> (times n 64).toNat, sar64 x (times n 64).toNat].getD (opI op) (BitVec.ofNat 64 0) := fun _ _ => rfl
  generalize opI op = k at *
  rcases (by omega : k = 0 ∨ k = 1 ∨ k = 2 ∨ k = 3 ∨ k = 4 ∨ k = 5 ∨ k = 6 ∨ k = 7) with rfl | rfl | rfl | rfl | rfl | rfl | rfl | rfl
  · exact key (add s t) (tight_made hv add_op hs ht) rfl rfl
  · exact key (sub s t) (tight_made hv sub_op hs ht) rfl rfl
  · exact key (Tn.and s t) (tight_made hv and_op hs ht) rfl rfl
  · exact key (Tn.or s t) (tight_made hv or_op hs ht) rfl rfl
  · exact key (Tn.xor s t) (tight_made hv xor_op hs ht) rfl rfl
  · exact key (lsh s n) (tight_made hv (op1_op2 (lsh_op n)) hs ht) rfl rfl
  · exact key (rsh s n) (tight_made hv (op1_op2 (rsh_op n)) hs ht) rfl rfl
  · exact key (arsh s n true) (tight_made hv (op1_op2 (arsh_op64 n)) hs ht) rfl rfl
noncomputable abbrev c_tt : Code := Try.f4.body.getD .skip
def p_tt0 : List Nat := [0, 1, 0, 1, 1, 1]
def sh_tt0 : Shape := ⟨[(0, .c (.w .u64)), (1, .c (.w .u64)), (3, .c (.i .i64)), (4, .c (.i .i64)), (7, .c (.p 0 0)), (11, .c (.p 1 0)), (12, .c (.p 2 0)), (13, .c (.i .i64))], [.lit [.w .u8, .w .u8, .w .u8, .w .u8, .w .u8, .w .u8, .w .u8, .w .u8], .lit [.w .u64, .w .u64], .lit [.w .u64, .w .u64]]⟩
@[reducible] def A_tt0 : Type := (BitVec 64) × (BitVec 64) × Int × Int × Int × (BitVec 8) × (BitVec 8) × (BitVec 8) × (BitVec 8) × (BitVec 8) × (BitVec 8) × (BitVec 8) × (BitVec 8) × (BitVec 64) × (BitVec 64) × (BitVec 64) × (BitVec 64)
def e_tt0 : A_tt0 → sh_tt0.den := fun ⟨a, b, op, n, i, p0, p1, p2, p3, p4, p5, p6, p7, sv, sm, tv, tm⟩ => ((a, b, op, n, (), (), (), i, ()), ((p0, p1, p2, p3, p4, p5, p6, p7, ()), (sv, sm, ()), (tv, tm, ()), ()))
def v_tt0 : sh_tt0.den → A_tt0 := fun d => match d with
  | ((a, b, op, n, (), (), (), i, ()), ((p0, p1, p2, p3, p4, p5, p6, p7, ()), (sv, sm, ()), (tv, tm, ()), ())) => (a, b, op, n, i, p0, p1, p2, p3, p4, p5, p6, p7, sv, sm, tv, tm)
def I_tt0 : A_tt0 → Prop := fun ⟨a, b, op, n, i, p0, p1, p2, p3, p4, p5, p6, p7, sv, sm, tv, tm⟩ => 0 ≤ i ∧ i ≤ 4
noncomputable def G_tt0 : A_tt0 → Tree (Ex × St) := fun ⟨a, b, op, n, i, p0, p1, p2, p3, p4, p5, p6, p7, sv, sm, tv, tm⟩ => .ret (.exit 0, ⟨[(0, .p (.one (.w .u64 a))), (1, .p (.one (.w .u64 b))), (3, .p (.one (.v (.int .i64 op)))), (4, .p (.one (.v (.int .i64 n)))), (11, .p (.one (.p 0 0))), (12, .p (.one (.p 1 0)))], [(0, .lit [.w .u64 sv, .w .u64 (orP ([p0, p1, p2, p3].drop i.toNat) sm)]), (1, .lit [.w .u64 tv, .w .u64 (orP ([p4, p5, p6, p7].drop i.toNat) tm)])], 2⟩)
noncomputable def orc_tt0 : Orc := ⟨sh_tt0, [], [0, 1, 3, 4, 11, 12], [], fun d => ckP (I_tt0 (v_tt0 d)) (G_tt0 (v_tt0 d))⟩
def p_tt1 : List Nat := [0, 1, 0, 1, 1, 1, 1, 1, 1, 1, 1, 1]
def sh_tt1 : Shape := ⟨[(3, .c (.i .i64)), (4, .c (.i .i64)), (11, .c (.p 0 0)), (12, .c (.p 1 0)), (14, .c (.h 2)), (15, .c (.h 3)), (16, .c (.i .i64)), (17, .c (.h 4)), (18, .c (.i .i64))], [.lit [.w .u64, .w .u64], .lit [.w .u64, .w .u64], .row u64s, .row u64s, .row u64s]⟩
@[reducible] def A_tt1 : Type := Int × Int × Int × Int × (BitVec 64) × (BitVec 64) × (BitVec 64) × (BitVec 64) × U64s × U64s × U64s
def e_tt1 : A_tt1 → sh_tt1.den := fun ⟨op, n, k, i, sv, sm, tv, tm, x, y, o⟩ => ((op, n, (), (), (), (), k, (), i, ()), ((sv, sm, ()), (tv, tm, ()), x, y, o, ()))
def v_tt1 : sh_tt1.den → A_tt1 := fun d => match d with
  | ((op, n, (), (), (), (), k, (), i, ()), ((sv, sm, ()), (tv, tm, ()), x, y, o, ())) => (op, n, k, i, sv, sm, tv, tm, x, y, o)
def I_tt1 : A_tt1 → Prop := fun ⟨op, n, k, i, sv, sm, tv, tm, x, y, o⟩ => 0 ≤ i ∧ x.length ≤ 16 ∧ y.length ≤ 16 ∧ 0 ≤ k ∧ k < 64 ∧ o.length + x.length * 16 ≤ 100000 + i.toNat * 16 ∧ o.length ≤ 100000
noncomputable def G_tt1 : A_tt1 → Tree (Ex × St) := fun ⟨op, n, k, i, sv, sm, tv, tm, x, y, o⟩ => .ret (.exit 2, ⟨[(3, .p (.one (.v (.int .i64 op)))), (4, .p (.one (.v (.int .i64 n)))), (11, .p (.one (.p 0 0))), (12, .p (.one (.p 1 0))), (17, .p (.one (.h 2)))], [(0, .lit [.w .u64 sv, .w .u64 sm]), (1, .lit [.w .u64 tv, .w .u64 tm]), (2, .row u64s (made op k (x.drop i.toNat) y o))], 3⟩)
noncomputable def orc_tt1 : Orc := ⟨sh_tt1, [(17, u64s)], [3, 4, 11, 12, 17], [], fun d => ckP (I_tt1 (v_tt1 d)) (G_tt1 (v_tt1 d))⟩
def p_tt2 : List Nat := [0, 1, 0, 0, 1, 0, 0, 1, 0, 1, 1, 1, 1, 1, 1, 1, 1, 1]
def sh_tt2 : Shape := ⟨[(3, .c (.i .i64)), (4, .c (.i .i64)), (11, .c (.p 0 0)), (12, .c (.p 1 0)), (14, .c (.h 2)), (15, .c (.h 3)), (16, .c (.i .i64)), (17, .c (.h 4)), (18, .c (.i .i64)), (19, .c (.i .i64))], [.lit [.w .u64, .w .u64], .lit [.w .u64, .w .u64], .row u64s, .row u64s, .row u64s]⟩
@[reducible] def A_tt2 : Type := Int × Int × Int × Int × Int × (BitVec 64) × (BitVec 64) × (BitVec 64) × (BitVec 64) × U64s × U64s × U64s
def e_tt2 : A_tt2 → sh_tt2.den := fun ⟨op, n, k, i, j, sv, sm, tv, tm, x, y, o⟩ => ((op, n, (), (), (), (), k, (), i, j, ()), ((sv, sm, ()), (tv, tm, ()), x, y, o, ()))
def v_tt2 : sh_tt2.den → A_tt2 := fun d => match d with
  | ((op, n, (), (), (), (), k, (), i, j, ()), ((sv, sm, ()), (tv, tm, ()), x, y, o, ())) => (op, n, k, i, j, sv, sm, tv, tm, x, y, o)
def I_tt2 : A_tt2 → Prop := fun ⟨op, n, k, i, j, sv, sm, tv, tm, x, y, o⟩ => 0 ≤ i ∧ x.length ≤ 16 ∧ y.length ≤ 16 ∧ 0 ≤ k ∧ k < 64 ∧ 0 ≤ j ∧ i < x.length ∧ o.length + y.length ≤ 100100 + j.toNat ∧ o.length ≤ 100100
noncomputable def G_tt2 : A_tt2 → Tree (Ex × St) := fun ⟨op, n, k, i, j, sv, sm, tv, tm, x, y, o⟩ => .ret (.exit 4, ⟨[(3, .p (.one (.v (.int .i64 op)))), (4, .p (.one (.v (.int .i64 n)))), (11, .p (.one (.p 0 0))), (12, .p (.one (.p 1 0))), (14, .p (.one (.h 2))), (15, .p (.one (.h 3))), (16, .p (.one (.v (.int .i64 k)))), (17, .p (.one (.h 4))), (18, .p (.one (.v (.int .i64 i))))], [(0, .lit [.w .u64 sv, .w .u64 sm]), (1, .lit [.w .u64 tv, .w .u64 tm]), (2, .row u64s x), (3, .row u64s y), (4, .row u64s (madeRow op k (x.getD i.toNat (BitVec.ofNat 64 0, ())).1 (y.drop j.toNat) o))], 5⟩)
noncomputable def orc_tt2 : Orc := ⟨sh_tt2, [(17, u64s)], [3, 4, 11, 12, 14, 15, 16, 17, 18], [], fun d => ckP (I_tt2 (v_tt2 d)) (G_tt2 (v_tt2 d))⟩
noncomputable def LT_tt : LT := oneL p_tt0 orc_tt0 (oneL p_tt1 orc_tt1 (oneL p_tt2 orc_tt2 (noL)))
noncomputable def T_tt2 : Int × Int × Int × Int × Int × (BitVec 64) × (BitVec 64) × (BitVec 64) × (BitVec 64) × U64s × U64s × U64s → Tree (A_tt2 ⊕ (Ex × St)) := fun ⟨op, n, k, i, j, sv, sm, tv, tm, x, y, o⟩ => 
Tree.ite (decide (j < (↑(List.length y) : Int))) (Tree.ite (decide ((0 : Int) ≤ i) && decide (i < (↑(List.length x) : Int))) (Tree.ite (decide ((0 : Int) ≤ j) && decide (j < (↑(List.length y) : Int))) (Tree.ite (decide ((0 : Int) ≤ i) && decide (i < (↑(List.length x) : Int))) (Tree.ite (decide ((0 : Int) ≤ j) && decide (j < (↑(List.length y) : Int))) (Tree.ite (decide ((0 : Int) ≤ i) && decide (i < (↑(List.length x) : Int))) (Tree.ite (decide ((0 : Int) ≤ j) && decide (j < (↑(List.length y) : Int))) (Tree.ite (decide ((0 : Int) ≤ i) && decide (i < (↑(List.length x) : Int))) (Tree.ite (decide ((0 : Int) ≤ j) && decide (j < (↑(List.length y) : Int))) (Tree.ite (decide ((0 : Int) ≤ i) && decide (i < (↑(List.length x) : Int))) (Tree.ite (decide ((0 : Int) ≤ j) && decide (j < (↑(List.length y) : Int))) (Tree.ite (decide ((0 : Int) ≤ i) && decide (i < (↑(List.length x) : Int))) (Tree.ite (decide (k < (0 : Int))) Tree.fail (Tree.ite (decide ((0 : Int) ≤ i) && decide (i < (↑(List.length x) : Int))) (Tree.ite (decide (k < (0 : Int))) Tree.fail (Tree.ite (decide ((0 : Int) ≤ i) && decide (i < (↑(List.length x) : Int))) (Tree.ite (decide (k < (0 : Int))) Tree.fail (Tree.ite (decide ((0 : Int) ≤ (IntKind.i64.wrap (op.tmod (8 : Int) + (8 : Int))).tmod (8 : Int)) && decide ((IntKind.i64.wrap (op.tmod (8 : Int) + (8 : Int))).tmod (8 : Int) < (8 : Int))) (Tree.ite (bytesOk (List.length o + (1 : Nat)) (8 : Nat) && (List.length o + (1 : Nat)).ble (140737488355328 : Nat)) (Tree.ret (Sum.inl (op, n, k, i, IntKind.i64.wrap (j + (1 : Int)), sv, sm, tv, tm, x, y, o ++ [([(List.getD x i.toNat (BitVec.ofNat (64 : Nat) (0 : Nat), ())).fst + (List.getD y j.toNat (BitVec.ofNat (64 : Nat) (0 : Nat), ())).fst, (List.getD x i.toNat (BitVec.ofNat (64 : Nat) (0 : Nat), ())).fst - (List.getD y j.toNat (BitVec.ofNat (64 : Nat) (0 : Nat), ())).fst, (List.getD x i.toNat (BitVec.ofNat (64 : Nat) (0 : Nat), ())).fst &&& (List.getD y j.toNat (BitVec.ofNat (64 : Nat) (0 : Nat), ())).fst, (List.getD x i.toNat (BitVec.ofNat (64 : Nat) (0 : Nat), ())).fst ||| (List.getD y j.toNat (BitVec.ofNat (64 : Nat) (0 : Nat), ())).fst, (List.getD x i.toNat (BitVec.ofNat (64 : Nat) (0 : Nat), ())).fst ^^^ (List.getD y j.toNat (BitVec.ofNat (64 : Nat) (0 : Nat), ())).fst, (List.getD x i.toNat (BitVec.ofNat (64 : Nat) (0 : Nat), ())).fst <<< k.toNat, (List.getD x i.toNat (BitVec.ofNat (64 : Nat) (0 : Nat), ())).fst >>> k.toNat, BitVec.ofInt (64 : Nat) ((BitVec.toInt (List.getD x i.toNat (BitVec.ofNat (64 : Nat) (0 : Nat), ())).fst).fdiv ((2 : Int) ^ min k.toNat (64 : Nat)))].getD ((IntKind.i64.wrap (op.tmod (8 : Int) + (8 : Int))).tmod (8 : Int)).toNat (BitVec.ofNat (64 : Nat) (0 : Nat)), ())]))) Tree.fail) Tree.fail)) Tree.fail)) Tree.fail)) Tree.fail) Tree.fail) Tree.fail) Tree.fail) Tree.fail) Tree.fail) Tree.fail) Tree.fail) Tree.fail) Tree.fail) Tree.fail) (Tree.ret (Sum.inr (Ex.exit (4 : Nat), { env := [((3 : Nat), AV.p (Part.one (Cell.v (Value.int IntKind.i64 op)))), ((4 : Nat), AV.p (Part.one (Cell.v (Value.int IntKind.i64 n)))), ((11 : Nat), AV.p (Part.one (Cell.p (0 : Nat) (0 : Nat)))), ((12 : Nat), AV.p (Part.one (Cell.p (1 : Nat) (0 : Nat)))), ((14 : Nat), AV.p (Part.one (Cell.h (2 : Nat)))), ((15 : Nat), AV.p (Part.one (Cell.h (3 : Nat)))), ((16 : Nat), AV.p (Part.one (Cell.v (Value.int IntKind.i64 k)))), ((17 : Nat), AV.p (Part.one (Cell.h (4 : Nat)))), ((18 : Nat), AV.p (Part.one (Cell.v (Value.int IntKind.i64 i))))], hp := [((0 : Nat), Ob.lit [Cell.w IntKind.u64 sv, Cell.w IntKind.u64 sm]), ((1 : Nat), Ob.lit [Cell.w IntKind.u64 tv, Cell.w IntKind.u64 tm]), ((2 : Nat), Ob.row u64s x), ((3 : Nat), Ob.row u64s y), ((4 : Nat), Ob.row u64s o)], nx := (5 : Nat) })))
theorem turn_tt2 : ∀ a : A_tt2, (turnT 0 orc_tt2 (evalCode Try.prog (lk L_all) Try.f4.ntmps 0 30 LT_tt (bodyAt c_tt p_tt2) false (0 :: p_tt2)) (sh_tt2.enc (e_tt2 a))).run = ((T_tt2 a).bind fun s => .ret (turnV sh_tt2 e_tt2 s)).run := by
  rintro ⟨op, n, k, i, j, sv, sm, tv, tm, x, y, o⟩
  kernel_rfl

def μ_tt2 : A_tt2 → Nat := fun ⟨op, n, k, i, j, sv, sm, tv, tm, x, y, o⟩ => y.length - j.toNat
theorem step_tt2 : ∀ a : A_tt2, I_tt2 a → (∃ a', (T_tt2 a).run = some (.inl a') ∧ I_tt2 a' ∧ μ_tt2 a' < μ_tt2 a ∧ (G_tt2 a').run = (G_tt2 a).run) ∨ (∃ y, (T_tt2 a).run = some (.inr y) ∧ (G_tt2 a).run = some y ∧ ((∃ id, y.1 = .exit id) ∨ y.1 = .ret)) := by
  rintro ⟨op, n, k, i, j, sv, sm, tv, tm, x, y, o⟩ ⟨h1, h2, h3, h4, h5, h6, h7, h8, h9⟩
  simp only [T_tt2]
  by_cases hj : j < y.length
  · left
    have bi : 0 ≤ i ∧ i < (x.length : Int) := ⟨h1, h7⟩
    have bj : 0 ≤ j ∧ j < (y.length : Int) := ⟨h6, hj⟩
    have hk : ¬ k < 0 := by omega
    have hop := times_range (n := op) (m := 8) (by decide) (by decide)
    unfold times at hop
    rw [goTd hj, goTa bi, goTa bj, goTa bi, goTa bj, goTa bi, goTa bj, goTa bi, goTa bj, goTa bi, goTa bj, goTa bi, goFd hk, goTa bi, goFd hk, goTa bi, goFd hk, goTa hop, goTb ⟨by omega, by omega⟩, wrap64 (n := j + 1) (by omega) (by omega)]
    refine ⟨_, rfl, ⟨h1, h2, h3, h4, h5, by omega, h7, ?_, ?_⟩, by simp only [μ_tt2]; omega, ?_⟩
    · simp only [List.length_append, List.length_cons, List.length_nil]; omega
    · simp only [List.length_append, List.length_cons, List.length_nil]; omega
    · simp only [G_tt2, Tree.run]
      rw [toNat_succ h6, drop_cons (l := y) (i := j.toNat) (by omega) (BitVec.ofNat 64 0, ())]
      unfold madeRow
      rw [List.map_cons, List.append_assoc]; rfl
  · right
    rw [goFd hj]
    refine ⟨_, rfl, ?_, .inl ⟨4, rfl⟩⟩
    simp only [G_tt2, Tree.run]
    rw [drop_end (by omega)]
    unfold madeRow
    rw [List.map_nil, List.append_nil]
noncomputable def T_tt1 : Int × Int × Int × Int × (BitVec 64) × (BitVec 64) × (BitVec 64) × (BitVec 64) × U64s × U64s × U64s → Tree (A_tt1 ⊕ (Ex × St)) := fun ⟨op, n, k, i, sv, sm, tv, tm, x, y, o⟩ => 
Tree.ite (decide (i < (↑(List.length x) : Int))) (Tree.ite (decC ((0 : Int) ≤ i ∧ List.length x ≤ (16 : Nat) ∧ List.length y ≤ (16 : Nat) ∧ (0 : Int) ≤ k ∧ k < (64 : Int) ∧ (0 : Int) ≤ (0 : Int) ∧ i < (↑(List.length x) : Int) ∧ List.length o + List.length y ≤ (100100 : Nat) ∧ List.length o ≤ (100100 : Nat))) (Tree.ret (Sum.inl (op, n, k, IntKind.i64.wrap (i + (1 : Int)), sv, sm, tv, tm, x, y, madeRow op k (List.getD x i.toNat (BitVec.ofNat (64 : Nat) (0 : Nat), ())).fst (List.drop (0 : Nat) y) o))) Tree.fail) (Tree.ret (Sum.inr (Ex.exit (2 : Nat), { env := [((3 : Nat), AV.p (Part.one (Cell.v (Value.int IntKind.i64 op)))), ((4 : Nat), AV.p (Part.one (Cell.v (Value.int IntKind.i64 n)))), ((11 : Nat), AV.p (Part.one (Cell.p (0 : Nat) (0 : Nat)))), ((12 : Nat), AV.p (Part.one (Cell.p (1 : Nat) (0 : Nat)))), ((17 : Nat), AV.p (Part.one (Cell.h (2 : Nat))))], hp := [((0 : Nat), Ob.lit [Cell.w IntKind.u64 sv, Cell.w IntKind.u64 sm]), ((1 : Nat), Ob.lit [Cell.w IntKind.u64 tv, Cell.w IntKind.u64 tm]), ((2 : Nat), Ob.row u64s o)], nx := (3 : Nat) })))
theorem turn_tt1 : ∀ a : A_tt1, (turnT 0 orc_tt1 (evalCode Try.prog (lk L_all) Try.f4.ntmps 0 30 LT_tt (bodyAt c_tt p_tt1) false (0 :: p_tt1)) (sh_tt1.enc (e_tt1 a))).run = ((T_tt1 a).bind fun s => .ret (turnV sh_tt1 e_tt1 s)).run := by
  rintro ⟨op, n, k, i, sv, sm, tv, tm, x, y, o⟩
  kernel_rfl

def μ_tt1 : A_tt1 → Nat := fun ⟨op, n, k, i, sv, sm, tv, tm, x, y, o⟩ => x.length - i.toNat
theorem step_tt1 : ∀ a : A_tt1, I_tt1 a → (∃ a', (T_tt1 a).run = some (.inl a') ∧ I_tt1 a' ∧ μ_tt1 a' < μ_tt1 a ∧ (G_tt1 a').run = (G_tt1 a).run) ∨ (∃ y, (T_tt1 a).run = some (.inr y) ∧ (G_tt1 a).run = some y ∧ ((∃ id, y.1 = .exit id) ∨ y.1 = .ret)) := by
  rintro ⟨op, n, k, i, sv, sm, tv, tm, x, y, o⟩ ⟨h1, h2, h3, h4, h5, h6, h7⟩
  simp only [T_tt1]
  by_cases hi : i < x.length
  · left
    rw [goTd hi, goT (decP ⟨h1, h2, h3, h4, h5, Int.le_refl 0, hi, by omega, by omega⟩), wrap64 (n := i + 1) (by omega) (by omega)]
    have hl : (madeRow op k (x.getD i.toNat (BitVec.ofNat 64 0, ())).1 (y.drop 0) o).length = o.length + y.length := by
      rw [List.drop_zero, madeRow, List.length_append, List.length_map]
    refine ⟨_, rfl, ⟨by omega, h2, h3, h4, h5, by rw [hl]; omega, by rw [hl]; omega⟩, by simp only [μ_tt1]; omega, ?_⟩
    simp only [G_tt1, Tree.run]
    rw [toNat_succ h1, drop_cons (l := x) (i := i.toNat) (by omega) (BitVec.ofNat 64 0, ())]; rfl
  · right
    rw [goFd hi]
    refine ⟨_, rfl, ?_, .inl ⟨2, rfl⟩⟩
    simp only [G_tt1, Tree.run]
    rw [drop_end (by omega)]; rfl
noncomputable def T_tt0 : (BitVec 64) × (BitVec 64) × Int × Int × Int × (BitVec 8) × (BitVec 8) × (BitVec 8) × (BitVec 8) × (BitVec 8) × (BitVec 8) × (BitVec 8) × (BitVec 8) × (BitVec 64) × (BitVec 64) × (BitVec 64) × (BitVec 64) → Tree (A_tt0 ⊕ (Ex × St)) := fun ⟨a, b, op, n, i, p0, p1, p2, p3, p4, p5, p6, p7, sv, sm, tv, tm⟩ => 
Tree.ite (decide (i < (4 : Int))) (Tree.ite (decide ((0 : Int) ≤ i) && decide (i < (8 : Int))) (Tree.ite (decide ((0 : Int) ≤ IntKind.i64.wrap ((4 : Int) + i)) && decide (IntKind.i64.wrap ((4 : Int) + i) < (8 : Int))) (Tree.ret (Sum.inl (a, b, op, n, IntKind.i64.wrap (i + (1 : Int)), p0, p1, p2, p3, p4, p5, p6, p7, sv, sm ||| BitVec.ofInt (64 : Nat) (1 : Int) <<< ([p0, p1, p2, p3, p4, p5, p6, p7].getD i.toNat (BitVec.ofNat (8 : Nat) (0 : Nat)) % BitVec.ofInt (8 : Nat) (64 : Int)).toNat, tv, tm ||| BitVec.ofInt (64 : Nat) (1 : Int) <<< ([p0, p1, p2, p3, p4, p5, p6, p7].getD (IntKind.i64.wrap ((4 : Int) + i)).toNat (BitVec.ofNat (8 : Nat) (0 : Nat)) % BitVec.ofInt (8 : Nat) (64 : Int)).toNat))) Tree.fail) Tree.fail) (Tree.ret (Sum.inr (Ex.exit (0 : Nat), { env := [((0 : Nat), AV.p (Part.one (Cell.w IntKind.u64 a))), ((1 : Nat), AV.p (Part.one (Cell.w IntKind.u64 b))), ((3 : Nat), AV.p (Part.one (Cell.v (Value.int IntKind.i64 op)))), ((4 : Nat), AV.p (Part.one (Cell.v (Value.int IntKind.i64 n)))), ((11 : Nat), AV.p (Part.one (Cell.p (0 : Nat) (0 : Nat)))), ((12 : Nat), AV.p (Part.one (Cell.p (1 : Nat) (0 : Nat))))], hp := [((0 : Nat), Ob.lit [Cell.w IntKind.u64 sv, Cell.w IntKind.u64 sm]), ((1 : Nat), Ob.lit [Cell.w IntKind.u64 tv, Cell.w IntKind.u64 tm])], nx := (2 : Nat) })))
theorem turn_tt0 : ∀ a : A_tt0, (turnT 0 orc_tt0 (evalCode Try.prog (lk L_all) Try.f4.ntmps 0 30 LT_tt (bodyAt c_tt p_tt0) false (0 :: p_tt0)) (sh_tt0.enc (e_tt0 a))).run = ((T_tt0 a).bind fun s => .ret (turnV sh_tt0 e_tt0 s)).run := by
  rintro ⟨a, b, op, n, i, p0, p1, p2, p3, p4, p5, p6, p7, sv, sm, tv, tm⟩
  kernel_rfl

def μ_tt0 : A_tt0 → Nat := fun ⟨a, b, op, n, i, p0, p1, p2, p3, p4, p5, p6, p7, sv, sm, tv, tm⟩ => (4 - i).toNat
theorem step_tt0 : ∀ a : A_tt0, I_tt0 a → (∃ a', (T_tt0 a).run = some (.inl a') ∧ I_tt0 a' ∧ μ_tt0 a' < μ_tt0 a ∧ (G_tt0 a').run = (G_tt0 a).run) ∨ (∃ y, (T_tt0 a).run = some (.inr y) ∧ (G_tt0 a).run = some y ∧ ((∃ id, y.1 = .exit id) ∨ y.1 = .ret)) := by
  rintro ⟨a, b, op, n, i, p0, p1, p2, p3, p4, p5, p6, p7, sv, sm, tv, tm⟩ ⟨h1, h2⟩
  simp only [T_tt0]
  by_cases hi : i < 4
  · left
    rw [goTd hi, goTa ⟨h1, by omega⟩, wrap64 (n := 4 + i) (by omega) (by omega), goTa ⟨by omega, by omega⟩, wrap64 (n := i + 1) (by omega) (by omega)]
    refine ⟨_, rfl, ⟨by omega, by omega⟩, by simp only [μ_tt0]; omega, ?_⟩
    rcases (by omega : i = 0 ∨ i = 1 ∨ i = 2 ∨ i = 3) with rfl | rfl | rfl | rfl <;> rfl
  · right
    rw [goFd hi]
    have : i = 4 := by omega
    subst this
    exact ⟨_, rfl, rfl, .inl ⟨0, rfl⟩⟩
theorem lok_tt : LOk Try.prog (lk L_all) Try.f4.ntmps 0 30 LT_tt c_tt := lok_view (lok_view (lok_view (noL_ok2 _ _ _ _ _ _ _) (by kernel_rfl) e_tt2 (by rintro ⟨⟨op, n, ⟨⟩, ⟨⟩, ⟨⟩, ⟨⟩, k, ⟨⟩, i, j, ⟨⟩⟩, ⟨⟨sv, sm, ⟨⟩⟩, ⟨tv, tm, ⟨⟩⟩, x, y, o, ⟨⟩⟩⟩; exact ⟨(op, n, k, i, j, sv, sm, tv, tm, x, y, o), rfl⟩) T_tt2 turn_tt2 I_tt2 G_tt2 (by rintro ⟨op, n, k, i, j, sv, sm, tv, tm, x, y, o⟩; rfl) μ_tt2 step_tt2) (by kernel_rfl) e_tt1 (by rintro ⟨⟨op, n, ⟨⟩, ⟨⟩, ⟨⟩, ⟨⟩, k, ⟨⟩, i, ⟨⟩⟩, ⟨⟨sv, sm, ⟨⟩⟩, ⟨tv, tm, ⟨⟩⟩, x, y, o, ⟨⟩⟩⟩; exact ⟨(op, n, k, i, sv, sm, tv, tm, x, y, o), rfl⟩) T_tt1 turn_tt1 I_tt1 G_tt1 (by rintro ⟨op, n, k, i, sv, sm, tv, tm, x, y, o⟩; rfl) μ_tt1 step_tt1) (by kernel_rfl) e_tt0 (by rintro ⟨⟨a, b, op, n, ⟨⟩, ⟨⟩, ⟨⟩, i, ⟨⟩⟩, ⟨⟨p0, p1, p2, p3, p4, p5, p6, p7, ⟨⟩⟩, ⟨sv, sm, ⟨⟩⟩, ⟨tv, tm, ⟨⟩⟩, ⟨⟩⟩⟩; exact ⟨(a, b, op, n, i, p0, p1, p2, p3, p4, p5, p6, p7, sv, sm, tv, tm), rfl⟩) T_tt0 turn_tt0 I_tt0 G_tt0 (by rintro ⟨a, b, op, n, i, p0, p1, p2, p3, p4, p5, p6, p7, sv, sm, tv, tm⟩; rfl) μ_tt0 step_tt0
noncomputable def E_tt : (BitVec 64) × (BitVec 64) × (BitVec 8) × (BitVec 8) × (BitVec 8) × (BitVec 8) × (BitVec 8) × (BitVec 8) × (BitVec 8) × (BitVec 8) × Int × Int → Tree (AV × List Ob) := fun ⟨a, b, p0, p1, p2, p3, p4, p5, p6, p7, op, n⟩ => 
Tree.ite (decC ((0 : Int) ≤ (0 : Int) ∧ (0 : Int) ≤ (4 : Int))) (Tree.ite (decC (List.length (downs (a &&& ~~~orP (List.drop (0 : Nat) [p0, p1, p2, p3]) (BitVec.ofInt (64 : Nat) (0 : Int))) (orP (List.drop (0 : Nat) [p0, p1, p2, p3]) (BitVec.ofInt (64 : Nat) (0 : Int))) (orP (List.drop (0 : Nat) [p0, p1, p2, p3]) (BitVec.ofInt (64 : Nat) (0 : Int)))) ≤ (1000000 : Nat))) (Tree.ite (decC (List.length (downs (b &&& ~~~orP (List.drop (0 : Nat) [p4, p5, p6, p7]) (BitVec.ofInt (64 : Nat) (0 : Int))) (orP (List.drop (0 : Nat) [p4, p5, p6, p7]) (BitVec.ofInt (64 : Nat) (0 : Int))) (orP (List.drop (0 : Nat) [p4, p5, p6, p7]) (BitVec.ofInt (64 : Nat) (0 : Int)))) ≤ (1000000 : Nat))) (Tree.ite (decC ((0 : Int) ≤ (0 : Int) ∧ List.length (downs (a &&& ~~~orP (List.drop (0 : Nat) [p0, p1, p2, p3]) (BitVec.ofInt (64 : Nat) (0 : Int))) (orP (List.drop (0 : Nat) [p0, p1, p2, p3]) (BitVec.ofInt (64 : Nat) (0 : Int))) (orP (List.drop (0 : Nat) [p0, p1, p2, p3]) (BitVec.ofInt (64 : Nat) (0 : Int)))) ≤ (16 : Nat) ∧ List.length (downs (b &&& ~~~orP (List.drop (0 : Nat) [p4, p5, p6, p7]) (BitVec.ofInt (64 : Nat) (0 : Int))) (orP (List.drop (0 : Nat) [p4, p5, p6, p7]) (BitVec.ofInt (64 : Nat) (0 : Int))) (orP (List.drop (0 : Nat) [p4, p5, p6, p7]) (BitVec.ofInt (64 : Nat) (0 : Int)))) ≤ (16 : Nat) ∧ (0 : Int) ≤ (IntKind.i64.wrap (n.tmod (64 : Int) + (64 : Int))).tmod (64 : Int) ∧ (IntKind.i64.wrap (n.tmod (64 : Int) + (64 : Int))).tmod (64 : Int) < (64 : Int) ∧ (0 : Nat) + List.length (downs (a &&& ~~~orP (List.drop (0 : Nat) [p0, p1, p2, p3]) (BitVec.ofInt (64 : Nat) (0 : Int))) (orP (List.drop (0 : Nat) [p0, p1, p2, p3]) (BitVec.ofInt (64 : Nat) (0 : Int))) (orP (List.drop (0 : Nat) [p0, p1, p2, p3]) (BitVec.ofInt (64 : Nat) (0 : Int)))) * (16 : Nat) ≤ (100000 : Nat) ∧ (0 : Nat) ≤ (100000 : Nat))) (Tree.ite (decide ((0 : Int) ≤ (IntKind.i64.wrap (op.tmod (8 : Int) + (8 : Int))).tmod (8 : Int)) && decide ((IntKind.i64.wrap (op.tmod (8 : Int) + (8 : Int))).tmod (8 : Int) < (8 : Int))) (Tree.ite (decC ((0 : Nat) < List.length (made op ((IntKind.i64.wrap (n.tmod (64 : Int) + (64 : Int))).tmod (64 : Int)) (List.drop (0 : Nat) (downs (a &&& ~~~orP (List.drop (0 : Nat) [p0, p1, p2, p3]) (BitVec.ofInt (64 : Nat) (0 : Int))) (orP (List.drop (0 : Nat) [p0, p1, p2, p3]) (BitVec.ofInt (64 : Nat) (0 : Int))) (orP (List.drop (0 : Nat) [p0, p1, p2, p3]) (BitVec.ofInt (64 : Nat) (0 : Int))))) (downs (b &&& ~~~orP (List.drop (0 : Nat) [p4, p5, p6, p7]) (BitVec.ofInt (64 : Nat) (0 : Int))) (orP (List.drop (0 : Nat) [p4, p5, p6, p7]) (BitVec.ofInt (64 : Nat) (0 : Int))) (orP (List.drop (0 : Nat) [p4, p5, p6, p7]) (BitVec.ofInt (64 : Nat) (0 : Int)))) []) ∧ List.length (made op ((IntKind.i64.wrap (n.tmod (64 : Int) + (64 : Int))).tmod (64 : Int)) (List.drop (0 : Nat) (downs (a &&& ~~~orP (List.drop (0 : Nat) [p0, p1, p2, p3]) (BitVec.ofInt (64 : Nat) (0 : Int))) (orP (List.drop (0 : Nat) [p0, p1, p2, p3]) (BitVec.ofInt (64 : Nat) (0 : Int))) (orP (List.drop (0 : Nat) [p0, p1, p2, p3]) (BitVec.ofInt (64 : Nat) (0 : Int))))) (downs (b &&& ~~~orP (List.drop (0 : Nat) [p4, p5, p6, p7]) (BitVec.ofInt (64 : Nat) (0 : Int))) (orP (List.drop (0 : Nat) [p4, p5, p6, p7]) (BitVec.ofInt (64 : Nat) (0 : Int))) (orP (List.drop (0 : Nat) [p4, p5, p6, p7]) (BitVec.ofInt (64 : Nat) (0 : Int)))) []) ≤ (1000000 : Nat))) (Tree.ret (AV.p (Part.one (Cell.v (Value.bool ([(add { v := a &&& ~~~orP (List.drop (0 : Nat) [p0, p1, p2, p3]) (BitVec.ofInt (64 : Nat) (0 : Int)), m := orP (List.drop (0 : Nat) [p0, p1, p2, p3]) (BitVec.ofInt (64 : Nat) (0 : Int)) } { v := b &&& ~~~orP (List.drop (0 : Nat) [p4, p5, p6, p7]) (BitVec.ofInt (64 : Nat) (0 : Int)), m := orP (List.drop (0 : Nat) [p4, p5, p6, p7]) (BitVec.ofInt (64 : Nat) (0 : Int)) }).v, (sub { v := a &&& ~~~orP (List.drop (0 : Nat) [p0, p1, p2, p3]) (BitVec.ofInt (64 : Nat) (0 : Int)), m := orP (List.drop (0 : Nat) [p0, p1, p2, p3]) (BitVec.ofInt (64 : Nat) (0 : Int)) } { v := b &&& ~~~orP (List.drop (0 : Nat) [p4, p5, p6, p7]) (BitVec.ofInt (64 : Nat) (0 : Int)), m := orP (List.drop (0 : Nat) [p4, p5, p6, p7]) (BitVec.ofInt (64 : Nat) (0 : Int)) }).v, (Tn.and { v := a &&& ~~~orP (List.drop (0 : Nat) [p0, p1, p2, p3]) (BitVec.ofInt (64 : Nat) (0 : Int)), m := orP (List.drop (0 : Nat) [p0, p1, p2, p3]) (BitVec.ofInt (64 : Nat) (0 : Int)) } { v := b &&& ~~~orP (List.drop (0 : Nat) [p4, p5, p6, p7]) (BitVec.ofInt (64 : Nat) (0 : Int)), m := orP (List.drop (0 : Nat) [p4, p5, p6, p7]) (BitVec.ofInt (64 : Nat) (0 : Int)) }).v, (Tn.or { v := a &&& ~~~orP (List.drop (0 : Nat) [p0, p1, p2, p3]) (BitVec.ofInt (64 : Nat) (0 : Int)), m := orP (List.drop (0 : Nat) [p0, p1, p2, p3]) (BitVec.ofInt (64 : Nat) (0 : Int)) } { v := b &&& ~~~orP (List.drop (0 : Nat) [p4, p5, p6, p7]) (BitVec.ofInt (64 : Nat) (0 : Int)), m := orP (List.drop (0 : Nat) [p4, p5, p6, p7]) (BitVec.ofInt (64 : Nat) (0 : Int)) }).v, (Tn.xor { v := a &&& ~~~orP (List.drop (0 : Nat) [p0, p1, p2, p3]) (BitVec.ofInt (64 : Nat) (0 : Int)), m := orP (List.drop (0 : Nat) [p0, p1, p2, p3]) (BitVec.ofInt (64 : Nat) (0 : Int)) } { v := b &&& ~~~orP (List.drop (0 : Nat) [p4, p5, p6, p7]) (BitVec.ofInt (64 : Nat) (0 : Int)), m := orP (List.drop (0 : Nat) [p4, p5, p6, p7]) (BitVec.ofInt (64 : Nat) (0 : Int)) }).v, (lsh { v := a &&& ~~~orP (List.drop (0 : Nat) [p0, p1, p2, p3]) (BitVec.ofInt (64 : Nat) (0 : Int)), m := orP (List.drop (0 : Nat) [p0, p1, p2, p3]) (BitVec.ofInt (64 : Nat) (0 : Int)) } n).v, (rsh { v := a &&& ~~~orP (List.drop (0 : Nat) [p0, p1, p2, p3]) (BitVec.ofInt (64 : Nat) (0 : Int)), m := orP (List.drop (0 : Nat) [p0, p1, p2, p3]) (BitVec.ofInt (64 : Nat) (0 : Int)) } n).v, (arsh { v := a &&& ~~~orP (List.drop (0 : Nat) [p0, p1, p2, p3]) (BitVec.ofInt (64 : Nat) (0 : Int)), m := orP (List.drop (0 : Nat) [p0, p1, p2, p3]) (BitVec.ofInt (64 : Nat) (0 : Int)) } n true).v].getD ((IntKind.i64.wrap (op.tmod (8 : Int) + (8 : Int))).tmod (8 : Int)).toNat (BitVec.ofNat (64 : Nat) (0 : Nat)) == (tightOf (made op ((IntKind.i64.wrap (n.tmod (64 : Int) + (64 : Int))).tmod (64 : Int)) (List.drop (0 : Nat) (downs (a &&& ~~~orP (List.drop (0 : Nat) [p0, p1, p2, p3]) (BitVec.ofInt (64 : Nat) (0 : Int))) (orP (List.drop (0 : Nat) [p0, p1, p2, p3]) (BitVec.ofInt (64 : Nat) (0 : Int))) (orP (List.drop (0 : Nat) [p0, p1, p2, p3]) (BitVec.ofInt (64 : Nat) (0 : Int))))) (downs (b &&& ~~~orP (List.drop (0 : Nat) [p4, p5, p6, p7]) (BitVec.ofInt (64 : Nat) (0 : Int))) (orP (List.drop (0 : Nat) [p4, p5, p6, p7]) (BitVec.ofInt (64 : Nat) (0 : Int))) (orP (List.drop (0 : Nat) [p4, p5, p6, p7]) (BitVec.ofInt (64 : Nat) (0 : Int)))) [])).v && ([(add { v := a &&& ~~~orP (List.drop (0 : Nat) [p0, p1, p2, p3]) (BitVec.ofInt (64 : Nat) (0 : Int)), m := orP (List.drop (0 : Nat) [p0, p1, p2, p3]) (BitVec.ofInt (64 : Nat) (0 : Int)) } { v := b &&& ~~~orP (List.drop (0 : Nat) [p4, p5, p6, p7]) (BitVec.ofInt (64 : Nat) (0 : Int)), m := orP (List.drop (0 : Nat) [p4, p5, p6, p7]) (BitVec.ofInt (64 : Nat) (0 : Int)) }).m, (sub { v := a &&& ~~~orP (List.drop (0 : Nat) [p0, p1, p2, p3]) (BitVec.ofInt (64 : Nat) (0 : Int)), m := orP (List.drop (0 : Nat) [p0, p1, p2, p3]) (BitVec.ofInt (64 : Nat) (0 : Int)) } { v := b &&& ~~~orP (List.drop (0 : Nat) [p4, p5, p6, p7]) (BitVec.ofInt (64 : Nat) (0 : Int)), m := orP (List.drop (0 : Nat) [p4, p5, p6, p7]) (BitVec.ofInt (64 : Nat) (0 : Int)) }).m, (Tn.and { v := a &&& ~~~orP (List.drop (0 : Nat) [p0, p1, p2, p3]) (BitVec.ofInt (64 : Nat) (0 : Int)), m := orP (List.drop (0 : Nat) [p0, p1, p2, p3]) (BitVec.ofInt (64 : Nat) (0 : Int)) } { v := b &&& ~~~orP (List.drop (0 : Nat) [p4, p5, p6, p7]) (BitVec.ofInt (64 : Nat) (0 : Int)), m := orP (List.drop (0 : Nat) [p4, p5, p6, p7]) (BitVec.ofInt (64 : Nat) (0 : Int)) }).m, (Tn.or { v := a &&& ~~~orP (List.drop (0 : Nat) [p0, p1, p2, p3]) (BitVec.ofInt (64 : Nat) (0 : Int)), m := orP (List.drop (0 : Nat) [p0, p1, p2, p3]) (BitVec.ofInt (64 : Nat) (0 : Int)) } { v := b &&& ~~~orP (List.drop (0 : Nat) [p4, p5, p6, p7]) (BitVec.ofInt (64 : Nat) (0 : Int)), m := orP (List.drop (0 : Nat) [p4, p5, p6, p7]) (BitVec.ofInt (64 : Nat) (0 : Int)) }).m, (Tn.xor { v := a &&& ~~~orP (List.drop (0 : Nat) [p0, p1, p2, p3]) (BitVec.ofInt (64 : Nat) (0 : Int)), m := orP (List.drop (0 : Nat) [p0, p1, p2, p3]) (BitVec.ofInt (64 : Nat) (0 : Int)) } { v := b &&& ~~~orP (List.drop (0 : Nat) [p4, p5, p6, p7]) (BitVec.ofInt (64 : Nat) (0 : Int)), m := orP (List.drop (0 : Nat) [p4, p5, p6, p7]) (BitVec.ofInt (64 : Nat) (0 : Int)) }).m, (lsh { v := a &&& ~~~orP (List.drop (0 : Nat) [p0, p1, p2, p3]) (BitVec.ofInt (64 : Nat) (0 : Int)), m := orP (List.drop (0 : Nat) [p0, p1, p2, p3]) (BitVec.ofInt (64 : Nat) (0 : Int)) } n).m, (rsh { v := a &&& ~~~orP (List.drop (0 : Nat) [p0, p1, p2, p3]) (BitVec.ofInt (64 : Nat) (0 : Int)), m := orP (List.drop (0 : Nat) [p0, p1, p2, p3]) (BitVec.ofInt (64 : Nat) (0 : Int)) } n).m, (arsh { v := a &&& ~~~orP (List.drop (0 : Nat) [p0, p1, p2, p3]) (BitVec.ofInt (64 : Nat) (0 : Int)), m := orP (List.drop (0 : Nat) [p0, p1, p2, p3]) (BitVec.ofInt (64 : Nat) (0 : Int)) } n true).m].getD ((IntKind.i64.wrap (op.tmod (8 : Int) + (8 : Int))).tmod (8 : Int)).toNat (BitVec.ofNat (64 : Nat) (0 : Nat)) == (tightOf (made op ((IntKind.i64.wrap (n.tmod (64 : Int) + (64 : Int))).tmod (64 : Int)) (List.drop (0 : Nat) (downs (a &&& ~~~orP (List.drop (0 : Nat) [p0, p1, p2, p3]) (BitVec.ofInt (64 : Nat) (0 : Int))) (orP (List.drop (0 : Nat) [p0, p1, p2, p3]) (BitVec.ofInt (64 : Nat) (0 : Int))) (orP (List.drop (0 : Nat) [p0, p1, p2, p3]) (BitVec.ofInt (64 : Nat) (0 : Int))))) (downs (b &&& ~~~orP (List.drop (0 : Nat) [p4, p5, p6, p7]) (BitVec.ofInt (64 : Nat) (0 : Int))) (orP (List.drop (0 : Nat) [p4, p5, p6, p7]) (BitVec.ofInt (64 : Nat) (0 : Int))) (orP (List.drop (0 : Nat) [p4, p5, p6, p7]) (BitVec.ofInt (64 : Nat) (0 : Int)))) [])).m && true))))), [])) Tree.fail) Tree.fail) Tree.fail) Tree.fail) Tree.fail) Tree.fail
theorem ev_tt (a : BitVec 64) (b : BitVec 64) (p0 : BitVec 8) (p1 : BitVec 8) (p2 : BitVec 8) (p3 : BitVec 8) (p4 : BitVec 8) (p5 : BitVec 8) (p6 : BitVec 8) (p7 : BitVec 8) (op : Int) (n : Int) : (evalFnL Try.prog (lk L_all) 30 LT_tt Try.f4 c_tt [] [.p (.one (.w .u64 a)), .p (.one (.w .u64 b)), .p (.many [.w .u8 p0, .w .u8 p1, .w .u8 p2, .w .u8 p3, .w .u8 p4, .w .u8 p5, .w .u8 p6, .w .u8 p7]), .p (.one (.v (.int .i64 op))), .p (.one (.v (.int .i64 n)))] []).run = (E_tt (a, b, p0, p1, p2, p3, p4, p5, p6, p7, op, n)).run := by kernel_rfl

theorem true_tt (a : BitVec 64) (b : BitVec 64) (p0 : BitVec 8) (p1 : BitVec 8) (p2 : BitVec 8) (p3 : BitVec 8) (p4 : BitVec 8) (p5 : BitVec 8) (p6 : BitVec 8) (p7 : BitVec 8) (op : Int) (n : Int) (hok : okS [.one (.w .u64), .one (.w .u64), .many (.cons (.w .u8) (.cons (.w .u8) (.cons (.w .u8) (.cons (.w .u8) (.cons (.w .u8) (.cons (.w .u8) (.cons (.w .u8) (.cons (.w .u8) .nil)))))))), .one (.i .i64), .one (.i .i64)] (a, b, (p0, p1, p2, p3, p4, p5, p6, p7, ()), op, n, ())) : (E_tt (a, b, p0, p1, p2, p3, p4, p5, p6, p7, op, n)).run = some (AV.b true, []) := by
  dsimp only [E_tt, List.drop]
  have hk := times_range (n := n) (m := 64) (by decide) (by decide)
  have hop := times_range (n := op) (m := 8) (by decide) (by decide)
  have hx := all_few (a &&& ~~~orP [p0, p1, p2, p3] (BitVec.ofInt 64 0)) p0 p1 p2 p3
  have hy := all_few (b &&& ~~~orP [p4, p5, p6, p7] (BitVec.ofInt 64 0)) p4 p5 p6 p7
  have hs := ok_of' a (orP [p0, p1, p2, p3] (BitVec.ofInt 64 0))
  have ht := ok_of' b (orP [p4, p5, p6, p7] (BitVec.ofInt 64 0))
  have hfin := tt_fin op n hs ht
  have hpos : 0 < (made op (times n 64) (allOf (of a (orP [p0, p1, p2, p3] (BitVec.ofInt 64 0)))) (allOf (of b (orP [p4, p5, p6, p7] (BitVec.ofInt 64 0)))) []).length := by
    rw [made_len, List.length_nil, Nat.zero_add]
    exact Nat.mul_pos (allOf_pos _) (allOf_pos _)
  have hle : (made op (times n 64) (allOf (of a (orP [p0, p1, p2, p3] (BitVec.ofInt 64 0)))) (allOf (of b (orP [p4, p5, p6, p7] (BitVec.ofInt 64 0)))) []).length ≤ 1000000 := by
    rw [made_len, List.length_nil, Nat.zero_add]
    exact Nat.le_trans (Nat.mul_le_mul hx hy) (by decide)
  refine (goT (decP ⟨by decide, by decide⟩)).trans ((goT (decP (by omega))).trans ((goT (decP (by omega))).trans ((goT (decP ⟨by decide, hx, hy, hk.1, hk.2, by omega, by omega⟩)).trans ((goTa hop).trans ((goT (decP ⟨hpos, hle⟩)).trans ?_)))))
  exact congrArg (fun z => some (AV.b z, ([] : List Ob))) hfin
theorem lifted_tt (os : Os) (started : os.Started) : ∀ {H : Type} (enc : TypeId × Value → H), ReturnsInHanded {} Try.checked os 4 .any (Rows.tnumTightSpec.pre6 enc Try.prog Try.f4 [] false) (Rows.tnumTightSpec.post enc Try.prog Try.f4 false true false false) := by
  intro H enc
  refine law_lifted (by kernel_rfl) (by kernel_rfl) started (by kernel_rfl) Try.func4 rfl ?_ rfl (by kernel_rfl) ?_
    (ChangeSpec.witness6 (enc := enc) (C := Try.checked) false ⟨#[], #[.int .u64 0, .int .u64 0, .agg #[.int .u8 0, .int .u8 0, .int .u8 0, .int .u8 0, .int .u8 0, .int .u8 0, .int .u8 0, .int .u8 0], .int .i64 0, .int .i64 0], []⟩ 8 (by kernel_rfl) (by kernel_rfl) (by kernel_rfl) (by kernel_rfl)) ?_
  · exact of_decide_eq_true (by kernel_rfl)
  · intro ds hds
    match ds, hds with
    | [d0, d1, d2, d3, d4], _ => rfl
  · intro W base args ds before hval htrod
    refine law_data (K := Kn) tok_all Try.checked.mixed Try.func4 (by rfl) 30 4 (rc := []) (sh := [.one (.w .u64), .one (.w .u64), .many (.cons (.w .u8) (.cons (.w .u8) (.cons (.w .u8) (.cons (.w .u8) (.cons (.w .u8) (.cons (.w .u8) (.cons (.w .u8) (.cons (.w .u8) .nil)))))))), .one (.i .i64), .one (.i .i64)]) (by kernel_rfl) ?_ W trivial base args ds before hval htrod
    rintro ⟨a, b, ⟨p0, p1, p2, p3, p4, p5, p6, p7, ⟨⟩⟩, op, n, ⟨⟩⟩ hok
    exact ⟨LT_tt, lok_tt, (ev_tt a b p0 p1 p2 p3 p4 p5 p6 p7 op n).trans (true_tt a b p0 p1 p2 p3 p4 p5 p6 p7 op n hok)⟩
theorem over_tt : Rows.tnumTightRow.holds Try.pinned (OpenSpec.ofChange Rows.tnumTightSpec) :=
  OpenClaim.holds_of_wide 4 Try.f4 rfl rfl rfl rfl rfl rfl rfl ⟨rfl, rfl, rfl, rfl, rfl⟩ rfl rfl rfl rfl rfl (by kernel_rfl) Try.func4 (by kernel_rfl)
    (of_decide_eq_true (by kernel_rfl)) (by unfold Func.isWrapper; first | (rw [if_pos (by decide +kernel)]; kernel_rfl) | (rw [if_neg (by decide +kernel)]; exact ⟨rfl, rfl⟩))
    (fun os started H enc _ => lifted_tt os started enc)
theorem holds_tt : Rows.TnumTightSaid := over_tt
end Go.Proofs.Ytoljppjibhnndaa.tt
