/- slices.Repeat of one number. -/
import Derived.Test.YtkhhdemhlbaboaaAMS
import Derived.Test.YtkhhdemhlbaboaaAM18
import Derived.Test.YtkhhdemhlbaboaaLives
import Derived.Laws.Bits64
set_option linter.unusedVariables false
set_option linter.unusedSimpArgs false
set_option maxRecDepth 20000
namespace Go.AM.K
open Go.AM Go.AM.Fn
attribute [local congr] ite_cond

theorem wrap_u {x : Nat} (h : x < 18446744073709551616) : IntKind.wrap .u64 (x : Int) = x := by
  rw [IntKind.wrap_u64]; omega
theorem mask_u {x : Nat} (h : x < 4294967296) : IntKind.wrap .u64 (((BitVec.ofInt (IntKind.bits .u64) (x : Int) &&& BitVec.ofInt (IntKind.bits .u64) 4294967295).toNat : Nat) : Int) = x := by
  have e : (BitVec.ofInt (IntKind.bits .u64) (x : Int) &&& BitVec.ofInt (IntKind.bits .u64) 4294967295).toNat = x := by
    rw [BitVec.toNat_and]
    have h1 : (BitVec.ofInt (IntKind.bits .u64) (x : Int)).toNat = x := by
      simp only [BitVec.toNat_ofInt, IntKind.bits]; omega
    have h2 : (BitVec.ofInt (IntKind.bits .u64) 4294967295).toNat = 2 ^ 32 - 1 := by decide
    rw [h1, h2, Nat.and_two_pow_sub_one_eq_mod]
    exact Nat.mod_eq_of_lt h
  rw [e, wrap_u (by omega)]
theorem shr_u {x : Nat} (h : x < 4294967296) : Int.fdiv (x : Int) (2 ^ min 32 (IntKind.bits .u64)) = 0 := by
  show Int.fdiv (x : Int) 4294967296 = 0
  rw [Int.fdiv_eq_ediv_of_nonneg _ (by omega)]; omega

theorem mul64_spec {h : Heap} {x y : Nat} (hx : x < 65536) (hy : y < 65536) : Call T1 75 [.int .u64 x, .int .u64 y] h (fun v h' => v = .tuple #[.int .u64 0, .int .u64 (x * y : Nat)] ∧ h' = h) := by
  have hxy : x * y < 4294967296 := Nat.lt_of_le_of_lt (Nat.mul_le_mul (show x ≤ 65535 by omega) (show y ≤ 65535 by omega)) (by decide)
  refine Call.of (fn := f75) rfl (by simp [f75]) ?_
  unfold f75
  have m1 : IntKind.wrap .u64 ((x : Int) * (y : Int)) = ((x * y : Nat) : Int) := by rw [← Int.natCast_mul, wrap_u (by omega)]
  have z : IntKind.wrap .u64 0 = 0 := by rw [IntKind.wrap_u64]; rfl
  have mz : IntKind.wrap .u64 (((BitVec.ofInt (IntKind.bits .u64) 0 &&& BitVec.ofInt (IntKind.bits .u64) 4294967295).toNat : Nat) : Int) = 0 := by decide
  have sz : Int.fdiv 0 (2 ^ min 32 (IntKind.bits .u64)) = 0 := by decide
  simp only [↓SP, SQ, SG, SL, ↓reduceIte, undef, iop, isShift, Nat.reduceEqDiff, reduceCtorEq, Nat.reduceAdd, Nat.reduceMul, Nat.reduceSub, Nat.reduceLT, Nat.reduceLeDiff, Int.reduceLT, Int.reduceLE, Int.reduceEq, Int.reduceGT, Int.reduceGE, Int.reduceNeg, Int.reduceToNat, ne_eq, if_true, if_false, List.map_cons, List.map_nil, Nat.le_refl, SM, r75_0, r75_1, r75_2, r75_3, r75_4, r75_5, r75_6, r75_7, r75_8, r75_9, r75_10, r75_11,
    mask_u (show x < 4294967296 by omega), mask_u (show y < 4294967296 by omega), shr_u (show x < 4294967296 by omega), shr_u (show y < 4294967296 by omega), m1, Int.zero_mul, Int.mul_zero, Int.add_zero, Int.zero_add, z, mz, sz, shr_u hxy]

theorem mul_spec {h : Heap} {x y : Nat} (hx : x < 65536) (hy : y < 65536) : Call T1 72 [.int .u64 x, .int .u64 y] h (fun v h' => v = .tuple #[.int .u64 0, .int .u64 (x * y : Nat)] ∧ h' = h) := by
  refine Call.of (fn := f72) rfl (by simp [f72]) ?_
  unfold f72
  simp only [↓SP, SQ, SG, SL, ↓reduceIte, undef, iop, isShift, Nat.reduceEqDiff, reduceCtorEq, Nat.reduceAdd, Nat.reduceMul, Nat.reduceSub, Nat.reduceLT, Nat.reduceLeDiff, Int.reduceLT, Int.reduceLE, Int.reduceEq, Int.reduceGT, Int.reduceGE, Int.reduceNeg, Int.reduceToNat, ne_eq, if_true, if_false, List.map_cons, List.map_nil, Nat.le_refl, SM, r72_0, r72_3]
  refine (mul64_spec hx hy).imp ?_
  rintro v h' ⟨rfl, rfl⟩
  simp only [↓SP, SQ, SG, SL, ↓reduceIte, undef, iop, isShift, Nat.reduceEqDiff, reduceCtorEq, Nat.reduceAdd, Nat.reduceMul, Nat.reduceSub, Nat.reduceLT, Nat.reduceLeDiff, Int.reduceLT, Int.reduceLE, Int.reduceEq, Int.reduceGT, Int.reduceGE, Int.reduceNeg, Int.reduceToNat, ne_eq, if_true, if_false, List.map_cons, List.map_nil, Nat.le_refl, SM, r72_4]

/-- A row of cells, so many times. -/
def reps (k : Nat) (x : List Value) : List Value := (List.replicate k x).flatten
theorem reps_zero (x : List Value) : reps 0 x = [] := rfl
theorem reps_succ (k : Nat) (x : List Value) : reps (k + 1) x = x ++ reps k x := by simp [reps, List.replicate_succ]
theorem reps_add (j k : Nat) (x : List Value) : reps (j + k) x = reps j x ++ reps k x := by
  induction j with
  | zero => simp [reps_zero]
  | succ j ih => rw [Nat.succ_add, reps_succ, reps_succ, ih, List.append_assoc]
theorem reps_length (k : Nat) (x : List Value) : (reps k x).length = k * x.length := by
  induction k with
  | zero => simp [reps_zero]
  | succ k ih => rw [reps_succ, List.length_append, ih, Nat.succ_mul]; omega

theorem made_reps (z : List Value) (hz : z.length ≠ 0) (n : Nat) : made z (n * z.length) = reps n z := by
  induction n with
  | zero => simp [made, reps_zero]
  | succ n ih =>
    rw [reps_add, Nat.succ_mul]
    have e1 : made z (n * z.length + z.length) = made z (n * z.length) ++ z := by
      apply List.ext_getElem?
      intro i
      unfold made
      rw [List.getElem?_map]
      by_cases h1 : i < n * z.length
      · rw [List.getElem?_append_left (by simpa using h1), List.getElem?_map, List.getElem?_range (by omega), List.getElem?_range h1]
      · rw [List.getElem?_append_right (by simp; omega)]
        simp only [List.length_map, List.length_range]
        by_cases h2 : i < n * z.length + z.length
        · rw [List.getElem?_range h2]
          have h3 : i % z.length = i - n * z.length := by
            have : i = (i - n * z.length) + n * z.length := by omega
            rw [this, Nat.add_mul_mod_self_right, Nat.mod_eq_of_lt (by omega)]
            omega
          have h4 : i - n * z.length < z.length := by omega
          simp only [Option.map_some, h3]
          rw [List.getD_eq_getElem?_getD, List.getElem?_eq_getElem h4]; rfl
        · rw [List.getElem?_eq_none (by simp; omega), List.getElem?_eq_none (by omega)]; rfl
    rw [e1, ih]; simp [reps_succ, reps_zero]

/-- The cells behind k copies of N. -/
def half (k N : Nat) (x z : List Value) : List Value := reps k x ++ reps (N - k) z

theorem half_length {k N : Nat} (hk : k ≤ N) {x z : List Value} (he : z.length = x.length) : (half k N x z).length = N * x.length := by
  unfold half
  rw [List.length_append, reps_length, reps_length, he, ← Nat.add_mul]
  congr 1; omega

theorem half_write {k m N : Nat} (hm : k + m ≤ N) {x z : List Value} (he : z.length = x.length) : (half k N x z).take (k * x.length) ++ reps m x ++ (half k N x z).drop (k * x.length + m * x.length) = half (k + m) N x z := by
  unfold half
  have l1 : k * x.length = (reps k x).length := (reps_length k x).symm
  rw [l1, List.take_left]
  rw [← List.drop_drop, List.drop_left]
  have e2 : reps (N - k) z = reps m z ++ reps (N - (k + m)) z := by rw [← reps_add]; congr 1; omega
  rw [e2, show m * x.length = (reps m z).length by rw [reps_length, he], List.drop_left, reps_add]

theorem half_read {k m N : Nat} (hm : m ≤ k) {x z : List Value} : (half k N x z).take (m * x.length) = reps m x := by
  unfold half
  have e2 : reps k x = reps m x ++ reps (k - m) x := by rw [← reps_add]; congr 1; omega
  rw [e2, List.append_assoc, ← reps_length, List.take_left]

theorem write_all {h : Heap} {b o : Nat} {vs : List Value} {blk : Blk} (hb : h.base ≤ b) (hg : h.get b = some blk) (hn : o + vs.length ≤ blk.cells.length) (h1 : Ones vs) : h.write b o vs = some (h.put b { blk with cells := blk.cells.take o ++ vs ++ blk.cells.drop (o + vs.length) }) := by
  unfold Heap.write
  simp only [hg]
  rw [if_pos ⟨hb, hn, h1⟩]

theorem ones_reps {x : List Value} (h : Ones x) (k : Nat) : Ones (reps k x) := by
  induction k with
  | zero => rw [reps_zero, ones_nil]; trivial
  | succ k ih =>
    rw [reps_succ]; unfold Ones at *
    rw [List.all_append, h, ih]; rfl

/-- A copy within a block of copies. -/
theorem copy_half {h : Heap} {b : Nat} {k n e c1 c2 : Nat} {x z : List Value} (hb : h.base ≤ b) (hg : h.get b = some { cells := half k n x z, esz := 0 }) (hx : x.length = e) (hz : z.length = e) (h1 : Ones x) (hk : 0 < k) (hkn : k < n) :
    copyA h e (.slice (some ⟨b, k * e, none⟩) (n - k) c1) (.slice (some ⟨b, 0, none⟩) k c2) = some (.int .i64 (min k (n - k) : Nat), h.put b { cells := half (k + min k (n - k)) n x z, esz := 0 }) := by
  subst hx
  have hm : min k (n - k) ≠ 0 := by omega
  have hle : min k (n - k) ≤ k := by omega
  have hr : h.read b 0 (min k (n - k) * x.length) = some (reps (min k (n - k)) x) := by
    rw [read_own hb hg (by rw [half_length (by omega) hz]; have := Nat.mul_le_mul_right x.length (show min k (n - k) ≤ n by omega); omega)]
    simp only [List.drop_zero]
    rw [half_read hle]
  have hw := write_all (o := k * x.length) hb hg (vs := reps (min k (n - k)) x) (by
    rw [reps_length, half_length (by omega) hz, ← Nat.add_mul]; exact Nat.mul_le_mul_right _ (by omega)) (ones_reps h1 _)
  rw [reps_length] at hw
  rw [half_write (by omega) hz] at hw
  have hmm : Nat.min k (n - k) = min k (n - k) := rfl
  simp only [copyA, lenA, srcA, hmm, hm, if_false, hr, hw]

theorem copy_first {h : Heap} {b : Nat} {n e c1 : Nat} {l : Value} {x z : List Value} (hb : h.base ≤ b) (hg : h.get b = some { cells := half 0 n x z, esz := 0 }) (hl : Reads h l 1 e x) (hz : z.length = e) (h1 : Ones x) (hn : 1 ≤ n) :
    copyA h e (.slice (some ⟨b, 0, none⟩) n c1) l = some (.int .i64 1, h.put b { cells := half 1 n x z, esz := 0 }) := by
  have hx : x.length = e := by have := hl.size; omega
  subst hx
  obtain ⟨bl, ol, ml, cl, rfl, hr⟩ := hl.at_ (by omega)
  have hmm : Nat.min 1 n = 1 := Nat.min_eq_left hn
  have hw := write_all (o := 0) hb hg (vs := x) (by rw [half_length (by omega) hz]; have := Nat.mul_le_mul_right x.length hn; omega) h1
  have e1 := half_write (k := 0) (m := 1) (N := n) (by omega) (x := x) (z := z) hz
  simp only [Nat.zero_mul, Nat.one_mul, Nat.zero_add, show reps 1 x = x from by simp [reps_succ, reps_zero]] at e1
  simp only [Nat.zero_add] at hw
  rw [e1] at hw
  simp only [copyA, lenA, srcA, hmm, hr, show ¬ (1 = 0) from by omega, if_false, hw]
  rfl

theorem sliceA_lo {esz b o len k : Nat} {ρ : Nat → Value} {t : Nat} (ht : ρ t = .int .i64 k) (hk : k < len) : sliceA esz (.slice (some ⟨b, o, none⟩) len len) (some (.tmp t)) none none ρ = some (.slice (some ⟨b, o + k * esz, none⟩) (len - k) (len - k)) := by
  have h1 : ¬ len = k := by omega
  simp [sliceA, bndA, ev, ht, Nat.le_of_lt hk, h1]
theorem sliceA_hi {esz b o len cap k : Nat} {ρ : Nat → Value} {t : Nat} (ht : ρ t = .int .i64 k) (hk : k ≤ cap) : sliceA esz (.slice (some ⟨b, o, none⟩) len cap) none (some (.tmp t)) none ρ = some (.slice (some ⟨b, o, none⟩) k cap) := by
  simp [sliceA, bndA, ev, ht, hk]

theorem repeat_spec {h : Heap} (k : Ok h) {l : Value} {x : List Value} (hx : x.length = 1) (h1 : Ones x) (hl : Reads h l 1 1 x) {n : Nat} (hn0 : 1 ≤ n) (hn : n ≤ 60000) :
    Call T1 61 [l, .int .i64 n] h (fun v h' => v = .slice (some ⟨h.next, 0, none⟩) n n ∧ h'.get h.next = some { cells := reps n x, esz := 0 } ∧ More h h') := by
  refine (Call.grows (R := fun v h' => v = .slice (some ⟨h.next, 0, none⟩) n n ∧ h'.get h.next = some { cells := reps n x, esz := 0 } ∧ Ext h h') ?_).imp (fun v h' ⟨⟨a, b, c⟩, g⟩ => ⟨a, b, c, k.grows g⟩)
  refine Call.of (fn := f61) rfl (by simp [f61]) ?_
  unfold f61
  have hlen := hl.len
  have c1 : IntKind.wrap .u64 ((1 : Nat) : Int) = ((1 : Nat) : Int) := wrap_u (by omega)
  have c2 : IntKind.wrap .u64 (n : Int) = (n : Int) := wrap_u (by omega)
  have hn0' : ¬ (n : Int) < 0 := by omega
  simp only [↓SP, SQ, SG, SL, ↓reduceIte, undef, iop, isShift, Nat.reduceEqDiff, reduceCtorEq, Nat.reduceAdd, Nat.reduceMul, Nat.reduceSub, Nat.reduceLT, Nat.reduceLeDiff, Int.reduceLT, Int.reduceLE, Int.reduceEq, Int.reduceGT, Int.reduceGE, Int.reduceNeg, Int.reduceToNat, ne_eq, if_true, if_false, List.map_cons, List.map_nil, Nat.le_refl, SM, r61_0, r61_1, r61_3, hlen, c1, c2, hn0']
  refine (mul_spec (x := 1) (y := n) (by omega) (by omega)).imp ?_
  rintro v h' ⟨rfl, rfl⟩
  have c3 : IntKind.wrap .i64 ((1 * n : Nat) : Int) = (n : Int) := by rw [Nat.one_mul, wrap_in] <;> omega
  have c4 : ¬ ((1 * n : Nat) : Int) > 9223372036854775807 := by omega
  have c5 : ((8 : Nat) : Int) * (n : Int) ≤ 281474976710656 := by omega
  have c6 : (n : Int) ≤ 9223372036854775807 := by omega
  have hmd : made [.int .i64 0] n = half 0 n x [.int .i64 0] := by
    rw [show half 0 n x [.int .i64 0] = reps n [.int .i64 0] from by simp [half, reps_zero]]
    simpa using made_reps [.int .i64 0] (by simp) n
  simp only [↓SP, SQ, SG, SL, ↓reduceIte, undef, iop, isShift, Nat.reduceEqDiff, reduceCtorEq, Nat.reduceAdd, Nat.reduceMul, Nat.reduceSub, Nat.reduceLT, Nat.reduceLeDiff, Int.reduceLT, Int.reduceLE, Int.reduceEq, Int.reduceGT, Int.reduceGE, Int.reduceNeg, Int.reduceToNat, ne_eq, if_true, if_false, List.map_cons, List.map_nil, Nat.le_refl, SM, r61_4, r61_6, r61_7, c3, c4, c5, c6, hmd, List.length_cons, List.length_nil]
  have hg0 : (h'.alloc { cells := half 0 n x [.int .i64 0], esz := 0 }).get h'.next = some { cells := half 0 n x [.int .i64 0], esz := 0 } := by simp [Heap.alloc]
  have x1 : Ext h' ((h'.alloc { cells := half 0 n x [.int .i64 0], esz := 0 }).put h'.next { cells := half 1 n x [.int .i64 0], esz := 0 }) := (Ext.alloc _ _).put (Nat.le_refl _) _
  have k1 : Ok ((h'.alloc { cells := half 0 n x [.int .i64 0], esz := 0 }).put h'.next { cells := half 1 n x [.int .i64 0], esz := 0 }) := (k.alloc _).put (by simp [Heap.alloc]) _
  have hcp := copy_first (c1 := n) (show (h'.alloc { cells := half 0 n x [.int .i64 0], esz := 0 }).base ≤ h'.next from k.le) hg0 (hl.ext (.alloc _ _) k) rfl h1 hn0
  simp only [↓SP, SQ, SG, SL, ↓reduceIte, undef, iop, isShift, Nat.reduceEqDiff, reduceCtorEq, Nat.reduceAdd, Nat.reduceMul, Nat.reduceSub, Nat.reduceLT, Nat.reduceLeDiff, Int.reduceLT, Int.reduceLE, Int.reduceEq, Int.reduceGT, Int.reduceGE, Int.reduceNeg, Int.reduceToNat, ne_eq, if_true, if_false, List.map_cons, List.map_nil, Nat.le_refl, SM, hcp]
  refine wp_loop Call.mono (fun q ρ g => ρ 7 = .slice (some ⟨h'.next, 0, none⟩) n n ∧ ∃ i : Nat, ρ 8 = .int .i64 i ∧ i + q = n ∧ 1 ≤ i ∧ g.get h'.next = some { cells := half i n x [.int .i64 0], esz := 0 } ∧ Ext h' g ∧ h'.next < g.next ∧ Ok g) ?_ (m := n - 1) ⟨rfl, 1, rfl, by omega, by omega, by simp [Heap.put], x1, by simp [Heap.put, Heap.alloc], k1⟩
  rintro q ρ g ⟨q7, i, q8, hq, hi1, hg, xg, hng, kg⟩
  unfold b61_1
  by_cases hi : i < n
  · have hcc := copy_half (c1 := n - i) (c2 := n) (show g.base ≤ h'.next by rw [xg.base]; exact k.le) hg hx rfl h1 (by omega) hi
    rw [Nat.mul_one] at hcc
    have hw : IntKind.wrap .i64 ((i : Int) + ((min i (n - i) : Nat) : Int)) = ((i + min i (n - i) : Nat) : Int) := by rw [wrap_in] <;> omega
    have s1 : ∀ ρ' : Nat → Value, ρ' 40 = .int .i64 i → sliceA 1 (.slice (some ⟨h'.next, 0, none⟩) n n) (some (.tmp 40)) none none ρ' = some (.slice (some ⟨h'.next, i * 1, none⟩) (n - i) (n - i)) := fun ρ' hr => by rw [sliceA_lo hr hi]; simp
    have s2 : ∀ ρ' : Nat → Value, ρ' 43 = .int .i64 i → sliceA 1 (.slice (some ⟨h'.next, 0, none⟩) n n) none (some (.tmp 43)) none ρ' = some (.slice (some ⟨h'.next, 0, none⟩) i n) := fun ρ' hr => sliceA_hi hr (Nat.le_of_lt hi)
    simp only [↓SP, SQ, SG, SL, ↓reduceIte, undef, iop, isShift, Nat.reduceEqDiff, reduceCtorEq, Nat.reduceAdd, Nat.reduceMul, Nat.reduceSub, Nat.reduceLT, Nat.reduceLeDiff, Int.reduceLT, Int.reduceLE, Int.reduceEq, Int.reduceGT, Int.reduceGE, Int.reduceNeg, Int.reduceToNat, ne_eq, if_true, if_false, List.map_cons, List.map_nil, Nat.le_refl, SM, r61_8, r61_9, q7, q8, hi, s1, s2, hcc, hw]
    refine ⟨q - min i (n - i), by omega, _, rfl, by omega, by omega, by simp [Heap.put], xg.put (Nat.le_refl _) _, hng, kg.put hng _⟩
  · have hii : i = n := by omega
    subst hii
    simp only [↓SP, SQ, SG, SL, ↓reduceIte, undef, iop, isShift, Nat.reduceEqDiff, reduceCtorEq, Nat.reduceAdd, Nat.reduceMul, Nat.reduceSub, Nat.reduceLT, Nat.reduceLeDiff, Int.reduceLT, Int.reduceLE, Int.reduceEq, Int.reduceGT, Int.reduceGE, Int.reduceNeg, Int.reduceToNat, ne_eq, if_true, if_false, List.map_cons, List.map_nil, Nat.le_refl, SM, r61_8, r61_10, q7, q8, Nat.lt_irrefl]
    refine ⟨?_, xg⟩
    rw [hg]; simp [half, reps_zero]

/-- A row of so many copies of a number. -/
theorem repeatInt_spec {h : Heap} (k : Ok h) {l : Value} {x : Int} (hl : Ints h l [x]) {n : Nat} (hn0 : 1 ≤ n) (hn : n ≤ 60000) :
    Call T1 61 [l, .int .i64 n] h (fun v h' => Own h h' v n 1 ((List.replicate n x).map (.int .i64)) ∧ More h h') := by
  refine (repeat_spec k (x := [.int .i64 x]) rfl (by rw [ones_cons, ones_nil]; exact ⟨rfl, trivial⟩) hl hn0 hn).imp ?_
  rintro v h' ⟨rfl, hg, mo⟩
  have e : reps n [Value.int .i64 x] = (List.replicate n x).map (.int .i64) := by
    clear hg
    induction n with
    | zero => rfl
    | succ n ih =>
      cases n with
      | zero => rfl
      | succ n => rw [reps_succ, ih (by omega) (by omega)]; rfl
  rw [e] at hg
  refine ⟨⟨by omega, by simp, ?_, .inr ⟨h.next, 0, .inr ⟨rfl, rfl⟩, hg, Nat.le_refl _, ?_⟩⟩, mo⟩
  · rw [List.all_eq_true]; intro y hy; obtain ⟨z, _, rfl⟩ := List.mem_map.1 hy; rfl
  · rw [mo.1.base]; exact k.le

end Go.AM.K
