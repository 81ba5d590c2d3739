/- Track: Fitch's sets; unit costs; lists that are the same. -/
import Derived.Test.YtkhhdemhlbaboaaAMS
import Derived.Test.YtkhhdemhlbaboaaK14
import Derived.Test.YtkhhdemhlbaboaaTP9
set_option linter.unusedVariables false
set_option linter.unusedSimpArgs false
set_option maxRecDepth 20000
namespace Go.AM.K
open Go.AM Go.AM.Fn Go.AM.TP
attribute [local congr] ite_cond

theorem before_spec {h : Heap} {a b : Value} {xs : List Int} (ha : Ints h a xs) (hb : Ints h b xs) : Call T1 48 [a, b] h (fun v h' => v = .bool false ∧ h' = h) := by
  refine Call.of (fn := f48) rfl (by simp [f48]) ?_
  unfold f48
  have l1 := ha.len
  have l2 := hb.len
  have hsm := ha.small
  simp only [↓SP, SQ, SG, SL, ↓reduceIte, undef, iop, isShift, Nat.reduceEqDiff, reduceCtorEq, Nat.reduceAdd, Nat.reduceMul, Nat.reduceSub, Nat.reduceLT, Nat.reduceLeDiff, Int.reduceLT, Int.reduceLE, Int.reduceEq, Int.reduceGT, Int.reduceGE, Int.reduceNeg, Int.reduceToNat, ne_eq, if_true, if_false, List.map_cons, List.map_nil, Nat.le_refl, SM, r48_0, r48_1]
  refine wp_loopK Call.mono (fun q ρ g => g = h ∧ ∃ i : Nat, ρ 5 = .int .i64 i ∧ i + q = xs.length) ?_ (m := xs.length) ⟨rfl, 0, rfl, by omega⟩
  rintro q ρ g ⟨rfl, i, q5, hq⟩ keep
  have ρ_0 : ρ 0 = a := by rw [keep 0 (of_decide_eq_true rfl)]; first | rfl | assumption
  have ρ_1 : ρ 1 = b := by rw [keep 1 (of_decide_eq_true rfl)]; first | rfl | assumption
  unfold b48_1
  by_cases hi : i < xs.length
  · obtain ⟨p1, a1, a2⟩ := ha.row hi
    obtain ⟨p2, a3, a4⟩ := hb.row hi
    simp only [↓SP, SQ, SG, SL, ↓reduceIte, undef, iop, isShift, Nat.reduceEqDiff, reduceCtorEq, Nat.reduceAdd, Nat.reduceMul, Nat.reduceSub, Nat.reduceLT, Nat.reduceLeDiff, Int.reduceLT, Int.reduceLE, Int.reduceEq, Int.reduceGT, Int.reduceGE, Int.reduceNeg, Int.reduceToNat, ne_eq, if_true, if_false, List.map_cons, List.map_nil, Nat.le_refl, SM, r48_2, r48_3, r48_4,  ρ_0, ρ_1, q5, l1, l2, hi, a1, a2, a3, a4, wrap_succ hi hsm]
    exact ⟨q - 1, by omega, i + 1, rfl, by omega⟩
  · simp only [↓SP, SQ, SG, SL, ↓reduceIte, undef, iop, isShift, Nat.reduceEqDiff, reduceCtorEq, Nat.reduceAdd, Nat.reduceMul, Nat.reduceSub, Nat.reduceLT, Nat.reduceLeDiff, Int.reduceLT, Int.reduceLE, Int.reduceEq, Int.reduceGT, Int.reduceGE, Int.reduceNeg, Int.reduceToNat, ne_eq, if_true, if_false, List.map_cons, List.map_nil, Nat.le_refl, SM, r48_2, r48_6,  ρ_0, ρ_1, q5, l1, l2, hi, Nat.lt_irrefl]

theorem same_spec {h : Heap} {a b : Value} {xs : List Int} (ha : Ints h a xs) (hb : Ints h b xs) : Call T1 23 [a, b] h (fun v h' => v = .bool true ∧ h' = h) := by
  refine Call.of (fn := f23) rfl (by simp [f23]) ?_
  unfold f23
  simp only [↓SP, SQ, SG, SL, ↓reduceIte, undef, iop, isShift, Nat.reduceEqDiff, reduceCtorEq, Nat.reduceAdd, Nat.reduceMul, Nat.reduceSub, Nat.reduceLT, Nat.reduceLeDiff, Int.reduceLT, Int.reduceLE, Int.reduceEq, Int.reduceGT, Int.reduceGE, Int.reduceNeg, Int.reduceToNat, ne_eq, if_true, if_false, List.map_cons, List.map_nil, Nat.le_refl, SM, r23_0, r23_1]
  refine (before_spec ha hb).imp ?_
  rintro v h' ⟨rfl, rfl⟩
  simp only [↓SP, SQ, SG, SL, ↓reduceIte, undef, iop, isShift, Nat.reduceEqDiff, reduceCtorEq, Nat.reduceAdd, Nat.reduceMul, Nat.reduceSub, Nat.reduceLT, Nat.reduceLeDiff, Int.reduceLT, Int.reduceLE, Int.reduceEq, Int.reduceGT, Int.reduceGE, Int.reduceNeg, Int.reduceToNat, ne_eq, if_true, if_false, List.map_cons, List.map_nil]
  refine (before_spec hb ha).imp ?_
  rintro v h' ⟨rfl, rfl⟩
  simp only [↓SP, SQ, SG, SL, ↓reduceIte, undef, iop, isShift, Nat.reduceEqDiff, reduceCtorEq, Nat.reduceAdd, Nat.reduceMul, Nat.reduceSub, Nat.reduceLT, Nat.reduceLeDiff, Int.reduceLT, Int.reduceLE, Int.reduceEq, Int.reduceGT, Int.reduceGE, Int.reduceNeg, Int.reduceToNat, ne_eq, if_true, if_false, List.map_cons, List.map_nil]

/-! ### Bits -/
theorem bv16 {x : Nat} (h : x < 16) : (BitVec.ofInt (IntKind.bits .i64) (x : Int)).toNat = x := by
  simp only [BitVec.toNat_ofInt, IntKind.bits]; omega
theorem and_code {a b : Nat} (ha : a < 16) (hb : b < 16) : IntKind.wrap .i64 (((BitVec.ofInt (IntKind.bits .i64) (a : Int) &&& BitVec.ofInt (IntKind.bits .i64) (b : Int)).toNat : Nat) : Int) = ((a &&& b : Nat) : Int) := by
  rw [BitVec.toNat_and, bv16 ha, bv16 hb]
  have : a &&& b < 16 := Nat.and_lt_two_pow (n := 4) _ hb
  rw [wrap_in] <;> omega
theorem or_code {a b : Nat} (ha : a < 16) (hb : b < 16) : IntKind.wrap .i64 (((BitVec.ofInt (IntKind.bits .i64) (a : Int) ||| BitVec.ofInt (IntKind.bits .i64) (b : Int)).toNat : Nat) : Int) = ((a ||| b : Nat) : Int) := by
  rw [BitVec.toNat_or, bv16 ha, bv16 hb]
  have : a ||| b < 16 := Nat.or_lt_two_pow (n := 4) ha hb
  rw [wrap_in] <;> omega
theorem shl_code {s : Nat} (hs : s < 4) : IntKind.wrap .i64 (1 * 2 ^ (min s (IntKind.bits .i64))) = ((1 <<< s : Nat) : Int) := by
  have : s = 0 ∨ s = 1 ∨ s = 2 ∨ s = 3 := by omega
  rcases this with rfl | rfl | rfl | rfl <;> decide
theorem shr_code {x s : Nat} (hx : x < 16) (hs : s < 4) : IntKind.wrap .i64 (((BitVec.ofInt (IntKind.bits .i64) (Int.fdiv (x : Int) (2 ^ (min s (IntKind.bits .i64)))) &&& BitVec.ofInt (IntKind.bits .i64) 1).toNat : Nat) : Int) = if x.testBit s = true then 1 else 0 := by
  have key : ∀ s : Nat, s < 4 → ∀ x : Nat, x < 16 → IntKind.wrap .i64 (((BitVec.ofInt (IntKind.bits .i64) (Int.fdiv (x : Int) (2 ^ (min s (IntKind.bits .i64)))) &&& BitVec.ofInt (IntKind.bits .i64) 1).toNat : Nat) : Int) = if x.testBit s = true then 1 else 0 := by decide +kernel
  exact key s hs x hx

/-- Sets, as the program has them. -/
def castS (S : List Nat) : List Int := S.map Int.ofNat
theorem castS_snoc (S : List Nat) (x : Nat) : castS (S ++ [x]) = castS S ++ [(x : Int)] := by simp [castS]
theorem castS_row {h : Heap} {v : Value} {S : List Nat} (r : Ints h v (castS S)) {i : Nat} (hi : i < S.length) : ∃ p, iaddrA 1 v (.int .i64 i) = some p ∧ loadA h 1 false p = some (.int .i64 ((S.getD i 0 : Nat) : Int)) := by
  obtain ⟨p, a1, a2⟩ := r.row (i := i) (by simpa [castS] using hi)
  refine ⟨p, a1, ?_⟩
  rw [a2, getD_in hi]; simp [castS]

theorem small_get {S : List Nat} (h : ∀ x ∈ S, x < 16) (i : Nat) : S.getD i 0 < 16 := by
  by_cases hi : i < S.length
  · rw [getD_in hi]; exact h _ (List.getElem_mem hi)
  · rw [List.getD_eq_getElem?_getD, List.getElem?_eq_none (by omega)]; decide

set_option maxHeartbeats 2000000 in
/-- The sets of all nodes. -/
theorem fitch_spec {h : Heap} (kk : Ok h) {n k : Nat} (n8 : n ≤ 8) (hk4 : k ≤ 4) {w0 w1 : Value} {J : List (Int × Int)} (hJ : Pairs h w0 J) (ht : treeB n J = true) {L : List Int} (hL : Ints h w1 L) (sl : statesB n k L = true) :
    Call T1 47 [w0, w1] h (fun v h' => ∃ w, v = .tuple #[w, .int .i64 (fitchN (bitsOf L) 0 J).2] ∧ IL h h' w (castS (fitchN (bitsOf L) 0 J).1) ∧ More h h') := by
  refine (Call.more kk (R := fun v h' => ∃ w, v = .tuple #[w, .int .i64 (fitchN (bitsOf L) 0 J).2] ∧ IL h h' w (castS (fitchN (bitsOf L) 0 J).1)) ?_).imp (fun v h' ⟨⟨w, a, b⟩, c⟩ => ⟨w, a, b, c⟩)
  have hs : (L.length : Int) = n ∧ ∀ s ∈ L, 0 ≤ s ∧ s < k := by simpa [statesB, List.all_eq_true] using sl
  have hjt := ht
  simp only [treeB, Bool.and_eq_true, decide_eq_true_eq] at hjt
  have hbn := ((joinsOk_iff _ _ _ _).1 hjt.2).1
  refine Call.of (fn := f47) rfl (by simp [f47]) ?_
  unfold f47
  have len0 := hJ.len
  have len1 := hL.len
  simp only [↓SP, SQ, SG, SL, ↓reduceIte, undef, iop, isShift, Nat.reduceEqDiff, reduceCtorEq, Nat.reduceAdd, Nat.reduceMul, Nat.reduceSub, Nat.reduceLT, Nat.reduceLeDiff, Int.reduceLT, Int.reduceLE, Int.reduceEq, Int.reduceGT, Int.reduceGE, Int.reduceNeg, Int.reduceToNat, ne_eq, if_true, if_false, List.map_cons, List.map_nil, Nat.le_refl, SM, r47_0, r47_1, r47_2,  len1]
  -- the leaves
  refine wp_doneK Call.mono (R := fun e ρ g => e = .exit 0 ∧ Ok g ∧ Ext h g ∧ IL h g (ρ 6) (castS (bitsOf L))) (wp_loopK Call.mono (fun q ρ g => Ok g ∧ Ext h g ∧ ∃ (i : Nat) (u : Value), ρ 6 = u ∧ ρ 15 = .int .i64 i ∧ i + q = L.length ∧ IL h g u (castS (bitsOf (L.take i)))) ?_ (m := L.length) ⟨kk, .refl _, 0, _, rfl, rfl, by omega, Own.nil _ _ _⟩) ?_
  · rintro q ρ g ⟨kg, xg, i, u, q6, q15, hq, r⟩ keep
    have ρ_13 : ρ 13 = w1 := by rw [keep 13 (of_decide_eq_true rfl)]; first | rfl | assumption
    have ρ_14 : ρ 14 = .int .i64 L.length := by rw [keep 14 (of_decide_eq_true rfl)]; first | rfl | assumption
    unfold b47_1
    by_cases hi : i < L.length
    rotate_left
    · have : i = L.length := by omega
      subst this
      rw [List.take_length] at r
      simp only [↓SP, SQ, SG, SL, ↓reduceIte, undef, iop, isShift, Nat.reduceEqDiff, reduceCtorEq, Nat.reduceAdd, Nat.reduceMul, Nat.reduceSub, Nat.reduceLT, Nat.reduceLeDiff, Int.reduceLT, Int.reduceLE, Int.reduceEq, Int.reduceGT, Int.reduceGE, Int.reduceNeg, Int.reduceToNat, ne_eq, if_true, if_false, List.map_cons, List.map_nil, Nat.le_refl, SM, r47_3,  ρ_13, ρ_14, q6, q15, Nat.lt_irrefl]
      exact ⟨kg, xg, r⟩
    obtain ⟨p, a1, a2⟩ := (hL.ext xg kk).row hi
    have hb := hs.2 _ (List.getElem_mem hi)
    obtain ⟨y, hy⟩ : ∃ y : Nat, L[i] = y := ⟨L[i].toNat, by omega⟩
    rw [hy] at a2
    have hws : IntKind.wrap .i64 ((i : Int) + 1) = ((i + 1 : Nat) : Int) := by rw [wrap_in] <;> omega
    have hsh := shl_code (s := y) (by omega)
    have hy0 : ¬ (y : Int) < 0 := by omega
    obtain ⟨v5, g5, e5, r5, x5, k5, _⟩ := r.push xg kg (by simp [castS, bitsOf]; omega) ((1 <<< y : Nat) : Int)
    have hnx : castS (bitsOf (L.take (i + 1))) = castS (bitsOf (L.take i)) ++ [((1 <<< y : Nat) : Int)] := by
      rw [List.take_succ_eq_append_getElem hi, bitsOf, List.map_append, ← castS_snoc]
      simp [bitsOf, hy]
    simp only [↓SP, SQ, SG, SL, ↓reduceIte, undef, iop, isShift, Nat.reduceEqDiff, reduceCtorEq, Nat.reduceAdd, Nat.reduceMul, Nat.reduceSub, Nat.reduceLT, Nat.reduceLeDiff, Int.reduceLT, Int.reduceLE, Int.reduceEq, Int.reduceGT, Int.reduceGE, Int.reduceNeg, Int.reduceToNat, ne_eq, if_true, if_false, List.map_cons, List.map_nil, Nat.le_refl, SM, r47_3, r47_4, r47_5, r47_6,  ρ_13, ρ_14, q6, q15, hi, a1, a2, hy0, hsh, e5, hws]
    exact ⟨q - 1, by omega, k5, x5, i + 1, _, rfl, rfl, by omega, by rw [hnx]; exact r5.elder xg.next⟩
  rintro e ρ1 g1 ⟨rfl, k1, x1, r1⟩ keep
  have ρ1_0 : ρ1 0 = w0 := keep 0 (of_decide_eq_true rfl)
  clear keep
  generalize hw6 : ρ1 6 = w6 at *
  simp only [↓SP, SQ, SG, SL, ↓reduceIte, undef, iop, isShift, Nat.reduceEqDiff, reduceCtorEq, Nat.reduceAdd, Nat.reduceMul, Nat.reduceSub, Nat.reduceLT, Nat.reduceLeDiff, Int.reduceLT, Int.reduceLE, Int.reduceEq, Int.reduceGT, Int.reduceGE, Int.reduceNeg, Int.reduceToNat, ne_eq, if_true, if_false, List.map_cons, List.map_nil, Nat.le_refl, SM, r47_7, r47_8,  ρ1_0, len0]
  have hsmall : ∀ x ∈ bitsOf L, x < 16 := by
    intro x hx
    obtain ⟨s, hs1, rfl⟩ := List.mem_map.1 hx
    have := hs.2 s hs1
    have h4 : s.toNat < 4 := by omega
    have : s.toNat = 0 ∨ s.toNat = 1 ∨ s.toNat = 2 ∨ s.toNat = 3 := by omega
    rcases this with e | e | e | e <;> rw [e] <;> decide
  -- the joins
  refine wp_doneK Call.mono (R := fun e ρ g => e = .exit 2 ∧ Ok g ∧ Ext h g ∧ IL h g (ρ 6) (castS (fitchN (bitsOf L) 0 J).1) ∧ ρ 9 = .int .i64 (fitchN (bitsOf L) 0 J).2) (wp_loopK Call.mono (fun q ρ g => Ok g ∧ Ext h g ∧ ∃ (i : Nat) (u : Value) (S : List Nat) (c : Nat), ρ 6 = u ∧ ρ 9 = .int .i64 c ∧ ρ 27 = .int .i64 i ∧ i + q = J.length ∧ IL h g u (castS S) ∧ S.length = n + i ∧ c ≤ i ∧ (∀ x ∈ S, x < 16) ∧ fitchN S c (J.drop i) = fitchN (bitsOf L) 0 J ∧ Bnds n i (J.drop i)) ?_ (m := J.length)
    ⟨k1, x1, 0, w6, bitsOf L, 0, by simp [put, hw6], rfl, rfl, by omega, r1, by simp [bitsOf]; omega, Nat.le_refl _, hsmall, rfl, hbn⟩) ?_
  · rintro q ρ g ⟨kg, xg, i, u, S, c, q6, q9, q27, hq, r, hSl, hc, hS, hf, hB⟩ keep
    have ρ_25 : ρ 25 = w0 := by rw [keep 25 (of_decide_eq_true rfl)]; first | rfl | assumption
    have ρ_26 : ρ 26 = .int .i64 J.length := by rw [keep 26 (of_decide_eq_true rfl)]; first | rfl | assumption
    unfold b47_2
    by_cases hi : i < J.length
    rotate_left
    · have : i = J.length := by omega
      subst this
      rw [List.drop_length] at hf
      have hf1 : (fitchN (bitsOf L) 0 J) = (S, c) := hf.symm
      rw [hf1]
      simp only [↓SP, SQ, SG, SL, ↓reduceIte, undef, iop, isShift, Nat.reduceEqDiff, reduceCtorEq, Nat.reduceAdd, Nat.reduceMul, Nat.reduceSub, Nat.reduceLT, Nat.reduceLeDiff, Int.reduceLT, Int.reduceLE, Int.reduceEq, Int.reduceGT, Int.reduceGE, Int.reduceNeg, Int.reduceToNat, ne_eq, if_true, if_false, List.map_cons, List.map_nil, Nat.le_refl, SM, r47_9,  ρ_25, ρ_26, q6, q9, q27, Nat.lt_irrefl]
      exact ⟨kg, xg, r⟩
    have hdr : J.drop i = J[i] :: J.drop (i + 1) := List.drop_eq_getElem_cons hi
    obtain ⟨⟨a, b⟩, hab⟩ : ∃ p, J[i] = p := ⟨_, rfl⟩
    rw [hdr, hab] at hf hB
    rw [Bnds] at hB
    obtain ⟨⟨a0, a1⟩, ⟨b0, b1⟩, hB'⟩ := hB
    obtain ⟨a, rfl⟩ : ∃ m : Nat, a = m := ⟨a.toNat, by omega⟩
    obtain ⟨b, rfl⟩ : ∃ m : Nat, b = m := ⟨b.toNat, by omega⟩
    rw [fitchN, Int.toNat_natCast, Int.toNat_natCast] at hf
    have sa := small_get hS a
    have sb := small_get hS b
    obtain ⟨pb, po, i1, i2, _, _⟩ := pair_row (hJ.ext xg kk) hi
    rw [getD_in hi, hab] at i2
    simp only at i2
    have hst := store_new2 kg (x := .int .i64 0) (y := .int .i64 0) (a := (a : Int)) (b := (b : Int))
    obtain ⟨x4, k4, gz4⟩ := ext_put_new (.refl g) kg (o := { cells := [.int .i64 0, .int .i64 0], esz := 0 }) (o' := { cells := [.int .i64 a, .int .i64 b], esz := 0 })
    have hb4 : g.base ≤ g.next := kg.le
    have r4 := r.step x4 kg
    simp only [↓SP, SQ, SG, SL, ↓reduceIte, undef, iop, isShift, Nat.reduceEqDiff, reduceCtorEq, Nat.reduceAdd, Nat.reduceMul, Nat.reduceSub, Nat.reduceLT, Nat.reduceLeDiff, Int.reduceLT, Int.reduceLE, Int.reduceEq, Int.reduceGT, Int.reduceGE, Int.reduceNeg, Int.reduceToNat, ne_eq, if_true, if_false, List.map_cons, List.map_nil, r47_9, r47_10,  ρ_25, ρ_26, q27, hi, i1, i2, hst]
    have hbb : ((g.alloc { cells := [Value.int IntKind.i64 0, Value.int IntKind.i64 0], esz := 0 }).put g.next { cells := [Value.int IntKind.i64 a, Value.int IntKind.i64 b], esz := 0 }).base = g.base := rfl
    generalize ((g.alloc { cells := [Value.int IntKind.i64 0, Value.int IntKind.i64 0], esz := 0 }).put g.next { cells := [Value.int IntKind.i64 a, Value.int IntKind.i64 b], esz := 0 }) = g4 at *
    rw [← hbb] at hb4
    clear hst
    have xg4 := xg.trans x4
    obtain ⟨p1, e1, e2⟩ := castS_row r4.ints (i := a) (by omega)
    obtain ⟨p2, e3, e4⟩ := castS_row r4.ints (i := b) (by omega)
    have hws : IntKind.wrap .i64 ((i : Int) + 1) = ((i + 1 : Nat) : Int) := by rw [wrap_in] <;> omega
    have hwc : IntKind.wrap .i64 ((c : Int) + 1) = ((c + 1 : Nat) : Int) := by rw [wrap_in] <;> omega
    have hand := and_code sa sb
    have hor := or_code sa sb
    have hlen : (castS S).length ≤ 1000000 := by simp [castS]; omega
    generalize S.getD a 0 = A at *
    generalize S.getD b 0 = B at *
    by_cases d0 : A &&& B = 0
    · rw [if_pos d0] at hf
      have hz : ((A &&& B : Nat) : Int) = 0 := by omega
      obtain ⟨v5, g5, ea, r5, x5, k5, _⟩ := r4.push xg4 k4 hlen ((A ||| B : Nat) : Int)
      rw [← castS_snoc] at r5
      simp only [↓SP, SQ, SG, SL, ↓reduceIte, undef, iop, isShift, Nat.reduceEqDiff, reduceCtorEq, Nat.reduceAdd, Nat.reduceMul, Nat.reduceSub, Nat.reduceLT, Nat.reduceLeDiff, Int.reduceLT, Int.reduceLE, Int.reduceEq, Int.reduceGT, Int.reduceGE, Int.reduceNeg, Int.reduceToNat, ne_eq, if_true, if_false, List.map_cons, List.map_nil, Nat.le_refl, SM, r47_11, r47_12, r47_13, r47_14, r47_15, r47_16,  gz4, hb4, q6, q9, q27, e1, e2, e3, e4, hand, hor, hz, ea, hws, hwc]
      refine ⟨q - 1, by omega, k5, x5, i + 1, _, S ++ [A ||| B], c + 1, rfl, rfl, rfl, by omega, r5.elder xg4.next, by simp; omega, by omega, fun x hx => ?_, hf, hB'⟩
      rcases List.mem_append.1 hx with hx | hx
      · exact hS x hx
      · simp only [List.mem_singleton] at hx; rw [hx]; exact Nat.or_lt_two_pow (n := 4) sa sb
    · rw [if_neg d0] at hf
      have hz : ¬ ((A &&& B : Nat) : Int) = 0 := by omega
      obtain ⟨v5, g5, ea, r5, x5, k5, _⟩ := r4.push xg4 k4 hlen ((A &&& B : Nat) : Int)
      rw [← castS_snoc] at r5
      simp only [↓SP, SQ, SG, SL, ↓reduceIte, undef, iop, isShift, Nat.reduceEqDiff, reduceCtorEq, Nat.reduceAdd, Nat.reduceMul, Nat.reduceSub, Nat.reduceLT, Nat.reduceLeDiff, Int.reduceLT, Int.reduceLE, Int.reduceEq, Int.reduceGT, Int.reduceGE, Int.reduceNeg, Int.reduceToNat, ne_eq, if_true, if_false, List.map_cons, List.map_nil, Nat.le_refl, SM, r47_11, r47_12, r47_15, r47_16,  gz4, hb4, q6, q9, q27, e1, e2, e3, e4, hand, hz, ea, hws]
      refine ⟨q - 1, by omega, k5, x5, i + 1, _, S ++ [A &&& B], c, rfl, rfl, rfl, by omega, r5.elder xg4.next, by simp; omega, by omega, fun x hx => ?_, hf, hB'⟩
      rcases List.mem_append.1 hx with hx | hx
      · exact hS x hx
      · simp only [List.mem_singleton] at hx; rw [hx]; exact Nat.and_lt_two_pow (n := 4) _ sb
  rintro e ρ2 g2 ⟨rfl, k2, x2, r2, q9⟩ keep
  simp only [↓SP, SQ, SG, SL, ↓reduceIte, undef, iop, isShift, Nat.reduceEqDiff, reduceCtorEq, Nat.reduceAdd, Nat.reduceMul, Nat.reduceSub, Nat.reduceLT, Nat.reduceLeDiff, Int.reduceLT, Int.reduceLE, Int.reduceEq, Int.reduceGT, Int.reduceGE, Int.reduceNeg, Int.reduceToNat, ne_eq, if_true, if_false, List.map_cons, List.map_nil, Nat.le_refl, SM, r47_17,  q9]
  exact ⟨⟨_, rfl, r2⟩, x2⟩

end Go.AM.K
