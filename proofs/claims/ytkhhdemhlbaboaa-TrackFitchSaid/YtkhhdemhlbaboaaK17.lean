/- The law TrackFitch over the abstract machine. -/
import Derived.Test.YtkhhdemhlbaboaaAMS
import Derived.Test.YtkhhdemhlbaboaaK16
import Derived.Test.YtkhhdemhlbaboaaK9
set_option linter.unusedVariables false
set_option linter.unusedSimpArgs false
set_option maxRecDepth 20000
namespace Go.AM.K
open Go.AM Go.AM.Fn Go.AM.TP
attribute [local congr] ite_cond

theorem store_newS {g : Heap} (k : Ok g) {x y v w : Value} (hv : v.oneCell' = true) (hw : w.oneCell' = true) : storeA (g.alloc { cells := [x, y], esz := 0 }) 2 (.pointer (some ⟨g.next, 0, none⟩)) (.agg #[v, w]) = some (undef, (g.alloc { cells := [x, y], esz := 0 }).put g.next { cells := [v, w], esz := 0 }) := by
  have hb : (g.alloc { cells := [x, y], esz := 0 }).base ≤ g.next := k.le
  have hg : (g.alloc { cells := [x, y], esz := 0 }).get g.next = some { cells := [x, y], esz := 0 } := by simp [Heap.alloc]
  rw [show (Value.agg #[v, w]) = .agg [v, w].toArray from rfl, storeN hb (by rw [ones_cons, ones_cons, ones_nil]; exact ⟨hv, hw, trivial⟩), hg]
  rfl

set_option maxHeartbeats 1000000 in
/-- The states with the least cost. -/
theorem leastLoop {ρ : Nat → Value} {g0 g : Heap} (k0 : Ok g0) (kg : Ok g) (xg : Ext g0 g) {R : Tab} {w1 w2 u : Value} {z k C S : Nat} (hk : k ≤ 4) (hlen : R.1.length = k) (hC : C ≤ 2100) (hw1 : Ints g0 w1 R.1) (hz : g0.get z = some { cells := [w1, w2], esz := 0 }) (hzb : g0.base ≤ z) (hR : ∀ s, s < k → (R.1.getD s 0 = (C : Int) ↔ S.testBit s = true))
    (hu : IL g0 g u []) (h5 : ρ 5 = .int .i64 k) (h10 : ρ 10 = .int .i64 C) (h13 : ρ 13 = .pointer (some ⟨z, 0, none⟩)) (h14 : ρ 14 = u) (h15 : ρ 15 = .int .i64 0) :
    wpC (Call T1) (.loop b4_1) (fun e ρ' g' => e = .exit 0 ∧ Ok g' ∧ Ext g0 g' ∧ IL g0 g' (ρ' 14) (bitList k S)) ρ g := by
  refine wp_loopK Call.mono (fun q ρ g' => Ok g' ∧ Ext g0 g' ∧ ∃ (i : Nat) (u' : Value), ρ 14 = u' ∧ ρ 15 = .int .i64 i ∧ i + q = k ∧ IL g0 g' u' (bitList i S)) ?_ (m := k) ⟨kg, xg, 0, u, h14, h15, by omega, hu⟩
  rintro q ρ1 g' ⟨kg', xg', i, u', q14, q15, hq, r⟩ keep
  have ρ1_5 : ρ1 5 = .int .i64 k := by rw [keep 5 (of_decide_eq_true rfl)]; exact h5
  have ρ1_10 : ρ1 10 = .int .i64 C := by rw [keep 10 (of_decide_eq_true rfl)]; exact h10
  have ρ1_13 : ρ1 13 = .pointer (some ⟨z, 0, none⟩) := by rw [keep 13 (of_decide_eq_true rfl)]; exact h13
  unfold b4_1
  by_cases hi : i < k
  rotate_left
  · have : i = k := by omega
    subst this
    simp only [↓SP, SQ, SG, SL, ↓reduceIte, undef, iop, isShift, Nat.reduceEqDiff, reduceCtorEq, Nat.reduceAdd, Nat.reduceMul, Nat.reduceSub, Nat.reduceLT, Nat.reduceLeDiff, Int.reduceLT, Int.reduceLE, Int.reduceEq, Int.reduceGT, Int.reduceGE, Int.reduceNeg, Int.reduceToNat, ne_eq, if_true, if_false, List.map_cons, List.map_nil, Nat.le_refl, SM, r4_11,  ρ1_5, q14, q15, Nat.lt_irrefl]
    exact ⟨kg', xg', r⟩
  have hws : IntKind.wrap .i64 ((i : Int) + 1) = ((i + 1 : Nat) : Int) := by rw [wrap_in] <;> omega
  have gz : g'.get z = some { cells := [w1, w2], esz := 0 } := by rw [xg'.get z (k0.lt hz)]; exact hz
  have bz : g'.base ≤ z := by rw [xg'.base]; exact hzb
  obtain ⟨p, a1, a2⟩ := (hw1.ext xg' k0).row (i := i) (by omega)
  have hRi := hR i hi
  rw [getD_in (by omega)] at hRi
  have hbl := bitList_succ i S
  by_cases he : R.1[i] = (C : Int)
  · rw [if_pos (hRi.1 he)] at hbl
    obtain ⟨v5, g5, e5, r5, x5, k5, _⟩ := r.push xg' kg' (by have := bitList_length i S; omega) (i : Int)
    rw [he] at a2
    simp only [↓SP, SQ, SG, SL, ↓reduceIte, undef, iop, isShift, Nat.reduceEqDiff, reduceCtorEq, Nat.reduceAdd, Nat.reduceMul, Nat.reduceSub, Nat.reduceLT, Nat.reduceLeDiff, Int.reduceLT, Int.reduceLE, Int.reduceEq, Int.reduceGT, Int.reduceGE, Int.reduceNeg, Int.reduceToNat, ne_eq, if_true, if_false, List.map_cons, List.map_nil, Nat.le_refl, SM, r4_11, r4_12, r4_13, r4_14,  ρ1_5, ρ1_10, ρ1_13, q14, q15, hi, gz, bz, a1, a2, e5, hws]
    exact ⟨q - 1, by omega, k5, x5, i + 1, _, rfl, rfl, by omega, by rw [hbl]; exact r5.elder xg'.next⟩
  · rw [if_neg (fun h => he (hRi.2 h))] at hbl
    simp only [↓SP, SQ, SG, SL, ↓reduceIte, undef, iop, isShift, Nat.reduceEqDiff, reduceCtorEq, Nat.reduceAdd, Nat.reduceMul, Nat.reduceSub, Nat.reduceLT, Nat.reduceLeDiff, Int.reduceLT, Int.reduceLE, Int.reduceEq, Int.reduceGT, Int.reduceGE, Int.reduceNeg, Int.reduceToNat, ne_eq, if_true, if_false, List.map_cons, List.map_nil, Nat.le_refl, SM, r4_11, r4_12, r4_13,  ρ1_5, ρ1_10, ρ1_13, q14, q15, hi, gz, bz, a1, a2, he, hws]
    exact ⟨q - 1, by omega, kg', xg', i + 1, _, by first | rfl | assumption, rfl, by omega, by rw [hbl]; exact r⟩

set_option maxHeartbeats 4000000 in
theorem fitch_law {h : Heap} (kk : Ok h) {N K : Int} (hN : 0 ≤ N ∧ N < 256) (hK : 0 ≤ K ∧ K < 256) {j c l : Value} {js cs ls : List Int} (hj : Bytes h j js) (hc : Bytes h c cs) (hl : Bytes h l ls) (fj : Fit j) (fc : Fit c) (fl : Fit l) :
    Call T1 4 [.agg #[.int .u8 N, .int .u8 K, j, c, l]] h (fun v _ => v = .bool true) := by
  refine Call.of (fn := f4) rfl (by simp [f4]) ?_
  unfold f4
  have cj := fj.cell
  have cc := fc.cell
  have cl := fl.cell
  obtain ⟨K', rfl⟩ : ∃ m : Nat, K = m := ⟨K.toNat, by omega⟩
  obtain ⟨k, hk⟩ : ∃ k : Nat, K' % 4 + 1 = k := ⟨_, rfl⟩
  have hk4 : 1 ≤ k ∧ k ≤ 4 := by omega
  have u1 : IntKind.wrap .i64 (K' : Int) = K' := by rw [wrap_in] <;> omega
  have u2 : Int.tmod (K' : Int) 4 = ((K' % 4 : Nat) : Int) := tmod_nat (b := 4)
  have u3 : IntKind.wrap .i64 (((K' % 4 : Nat) : Int) + 1) = (k : Int) := by rw [wrap_in] <;> omega
  obtain ⟨O, hO⟩ : ∃ O : List Value, O = [.int .u8 N, .int .u8 K', j, c, l] := ⟨_, rfl⟩
  have xa : Ext h (h.alloc { cells := O, esz := 0 }) := .alloc _ _
  have ka : Ok (h.alloc { cells := O, esz := 0 }) := kk.alloc _
  have ga : (h.alloc { cells := O, esz := 0 }).get h.next = some { cells := O, esz := 0 } := by simp [Heap.alloc]
  have ba : (h.alloc { cells := O, esz := 0 }).base ≤ h.next := kk.le
  simp only [↓SP, SQ, SG, SL, ↓reduceIte, undef, iop, isShift, Nat.reduceEqDiff, reduceCtorEq, Nat.reduceAdd, Nat.reduceMul, Nat.reduceSub, Nat.reduceLT, Nat.reduceLeDiff, Int.reduceLT, Int.reduceLE, Int.reduceEq, Int.reduceGT, Int.reduceGE, Int.reduceNeg, Int.reduceToNat, ne_eq, if_true, if_false, List.map_cons, List.map_nil, r4_0]
  rw [← hO]
  generalize (h.alloc { cells := O, esz := 0 }) = g at *
  have gat : ∀ {g' : Heap}, Ext g g' → g'.get h.next = some { cells := O, esz := 0 } ∧ g'.base ≤ h.next := fun x => ⟨by rw [x.get _ (ka.lt ga)]; exact ga, by rw [x.base]; exact ba⟩
  subst hO
  simp only [↓SP, SQ, SG, SL, ↓reduceIte, undef, iop, isShift, Nat.reduceEqDiff, reduceCtorEq, Nat.reduceAdd, Nat.reduceMul, Nat.reduceSub, Nat.reduceLT, Nat.reduceLeDiff, Int.reduceLT, Int.reduceLE, Int.reduceEq, Int.reduceGT, Int.reduceGE, Int.reduceNeg, Int.reduceToNat, ne_eq, if_true, if_false, List.map_cons, List.map_nil, Nat.le_refl, SM, r4_1,  ga, ba]
  refine (made_spec ka hN (hj.ext xa kk)).imp ?_
  rintro v g1 ⟨n, w4, J, rfl, n2, n8, ht, pl, m1⟩
  obtain ⟨ga1, ba1⟩ := gat m1.1
  simp only [↓SP, SQ, SG, SL, ↓reduceIte, undef, iop, isShift, Nat.reduceEqDiff, reduceCtorEq, Nat.reduceAdd, Nat.reduceMul, Nat.reduceSub, Nat.reduceLT, Nat.reduceLeDiff, Int.reduceLT, Int.reduceLE, Int.reduceEq, Int.reduceGT, Int.reduceGE, Int.reduceNeg, Int.reduceToNat, ne_eq, if_true, if_false, List.map_cons, List.map_nil, Nat.le_refl, SM, r4_1, r4_2, r4_3,  List.getElem?_toArray, ga1, ba1, u1, u2, u3]
  refine (lawStates_spec m1.2 (by omega) (by omega) ((hl.ext xa kk).ext m1.1 ka)).imp ?_
  rintro w6 g2 ⟨L, il6, sl, m2⟩
  have J2 := pl.pairs.ext m2.1 m1.2
  have hjl : J.length + 1 = n := by simp only [treeB, Bool.and_eq_true, decide_eq_true_eq] at ht; omega
  obtain ⟨fl1, fl2, fl3, R, hR1, hR2, hR3⟩ := fitch_least n8 hk4 ht sl
  simp only [↓SP, SQ, SG, SL, ↓reduceIte, undef, iop, isShift, Nat.reduceEqDiff, reduceCtorEq, Nat.reduceAdd, Nat.reduceMul, Nat.reduceSub, Nat.reduceLT, Nat.reduceLeDiff, Int.reduceLT, Int.reduceLE, Int.reduceEq, Int.reduceGT, Int.reduceGE, Int.reduceNeg, Int.reduceToNat, ne_eq, if_true, if_false, List.map_cons, List.map_nil, Nat.le_refl, SM, r4_3, r4_4]
  refine (lawFitch_spec m2.2 n2 n8 hk4 J2 ht il6.ints sl).imp ?_
  rintro v g3 ⟨w7, rfl, ol7, m3⟩
  obtain ⟨C, hC⟩ : ∃ C, (fitchN (bitsOf L) 0 J).2 = C := ⟨_, rfl⟩
  obtain ⟨S, hS⟩ : ∃ S, (fitchN (bitsOf L) 0 J).1 = S := ⟨_, rfl⟩
  rw [hC] at fl1 fl3 hR3
  rw [hS] at ol7 fl2 hR3
  simp only [↓SP, SQ, SG, SL, ↓reduceIte, undef, iop, isShift, Nat.reduceEqDiff, reduceCtorEq, Nat.reduceAdd, Nat.reduceMul, Nat.reduceSub, Nat.reduceLT, Nat.reduceLeDiff, Int.reduceLT, Int.reduceLE, Int.reduceEq, Int.reduceGT, Int.reduceGE, Int.reduceNeg, Int.reduceToNat, ne_eq, if_true, if_false, List.map_cons, List.map_nil, Nat.le_refl, SM, r4_4, r4_5,  List.getElem?_toArray, hC]
  refine (unit_spec m3.2 hk4).imp ?_
  rintro w47 g4 ⟨of4, m4⟩
  have m24 := m3.trans m4
  have W1 := why_ok ht (costsB_of hk4 (unit_bd k)) (matF_length k unitF) sl
  simp only [↓SP, SQ, SG, SL, ↓reduceIte, undef, iop, isShift, Nat.reduceEqDiff, reduceCtorEq, Nat.reduceAdd, Nat.reduceMul, Nat.reduceSub, Nat.reduceLT, Nat.reduceLeDiff, Int.reduceLT, Int.reduceLE, Int.reduceEq, Int.reduceGT, Int.reduceGE, Int.reduceNeg, Int.reduceToNat, ne_eq, if_true, if_false, List.map_cons, List.map_nil, Nat.le_refl, SM]
  refine (least_spec m4.2 (J2.ext m24.1 m2.2) of4.mat of4.fit (Own.fit pl) il6.fit (il6.ints.ext m24.1 m2.2)).imp ?_
  rintro v g5 ⟨rfl, m5⟩
  rw [W1.1, W1.2.1, fl1]
  have hl7 := ol7.reads.len
  rw [List.length_map, List.length_drop, fl2, show n + J.length - n = n - 1 by omega] at hl7
  have w1 : IntKind.wrap .i64 ((n : Int) - 1) = ((n - 1 : Nat) : Int) := by rw [wrap_in] <;> omega
  have w2 : IntKind.wrap .i64 ((n : Int) - 2) = ((n - 2 : Nat) : Int) := by rw [wrap_in] <;> omega
  simp only [↓SP, SQ, SG, SL, ↓reduceIte, undef, iop, isShift, Nat.reduceEqDiff, reduceCtorEq, Nat.reduceAdd, Nat.reduceMul, Nat.reduceSub, Nat.reduceLT, Nat.reduceLeDiff, Int.reduceLT, Int.reduceLE, Int.reduceEq, Int.reduceGT, Int.reduceGE, Int.reduceNeg, Int.reduceToNat, ne_eq, if_true, if_false, List.map_cons, List.map_nil, Nat.le_refl, SM, r4_5, r4_6,  List.getElem?_toArray, hl7, w1]
  refine lives_call ?_
  simp only [↓SP, SQ, SG, SL, ↓reduceIte, undef, iop, isShift, Nat.reduceEqDiff, reduceCtorEq, Nat.reduceAdd, Nat.reduceMul, Nat.reduceSub, Nat.reduceLT, Nat.reduceLeDiff, Int.reduceLT, Int.reduceLE, Int.reduceEq, Int.reduceGT, Int.reduceGE, Int.reduceNeg, Int.reduceToNat, ne_eq, if_true, if_false, List.map_cons, List.map_nil, Nat.le_refl, SM, r4_8]
  refine (unit_spec m5.2 hk4).imp ?_
  rintro w77 g6 ⟨of6, m6⟩
  have m26 := (m24.trans m5).trans m6
  simp only [↓SP, SQ, SG, SL, ↓reduceIte, undef, iop, isShift, Nat.reduceEqDiff, reduceCtorEq, Nat.reduceAdd, Nat.reduceMul, Nat.reduceSub, Nat.reduceLT, Nat.reduceLeDiff, Int.reduceLT, Int.reduceLE, Int.reduceEq, Int.reduceGT, Int.reduceGE, Int.reduceNeg, Int.reduceToNat, ne_eq, if_true, if_false, List.map_cons, List.map_nil, Nat.le_refl, SM]
  refine (nodes_spec m6.2 (J2.ext m26.1 m2.2) of6.mat (il6.ints.ext m26.1 m2.2) n8 ht (costsB_of hk4 (unit_bd k)) (matF_length k unitF) sl).imp ?_
  rintro w12 g7 ⟨ol12, m7⟩
  have rl := ol12.reads
  have hlen12 := rl.len
  have htl : (tabs k (matF k unitF) L J).length = n + J.length := by
    have : L.length = n := by simp only [statesB, Bool.and_eq_true, decide_eq_true_eq] at sl; omega
    unfold tabs; rw [nodesT_length]; simp [this]
  generalize tabs k (matF k unitF) L J = ts at *
  have hlast : ts[ts.length - 1]'(by omega) = R := by
    rw [List.getLast?_eq_getElem?, List.getElem?_eq_getElem (by omega)] at hR1; simpa using hR1
  obtain ⟨b, o, u, i1, _, l1, v1, v2, rfl, ⟨n1, f1, o1, c1⟩, n3, f3, o2, c2⟩ := rl.elem (i := ts.length - 1) (by omega)
  rw [hlast] at n1 n3
  have w3 : IntKind.wrap .i64 ((ts.length : Int) - 1) = ((ts.length - 1 : Nat) : Int) := by rw [wrap_in] <;> omega
  obtain ⟨x8, k8⟩ := ext_alloc0 m7.2
  have hst := store_newS k8 (x := .slice none 0 0) (y := .slice none 0 0) o1 o2
  obtain ⟨x9, k9, gz9⟩ := ext_put_new x8 k8 (o := { cells := [.slice none 0 0, .slice none 0 0], esz := 0 }) (o' := { cells := [v1, v2], esz := 0 })
  have hb9 : (g7.alloc { cells := [], esz := 0 }).base ≤ (g7.alloc { cells := [], esz := 0 }).next := k8.le
  simp only [↓SP, SQ, SG, SL, ↓reduceIte, undef, iop, isShift, Nat.reduceEqDiff, reduceCtorEq, Nat.reduceAdd, Nat.reduceMul, Nat.reduceSub, Nat.reduceLT, Nat.reduceLeDiff, Int.reduceLT, Int.reduceLE, Int.reduceEq, Int.reduceGT, Int.reduceGE, Int.reduceNeg, Int.reduceToNat, ne_eq, if_true, if_false, List.map_cons, List.map_nil, r4_9, r4_10,  hlen12, w3, i1, l1, hst]
  have hbb : (((g7.alloc { cells := [], esz := 0 }).alloc { cells := [Value.slice none 0 0, Value.slice none 0 0], esz := 0 }).put (g7.alloc { cells := [], esz := 0 }).next { cells := [v1, v2], esz := 0 }).base = (g7.alloc { cells := [], esz := 0 }).base := rfl
  generalize (((g7.alloc { cells := [], esz := 0 }).alloc { cells := [Value.slice none 0 0, Value.slice none 0 0], esz := 0 }).put (g7.alloc { cells := [], esz := 0 }).next { cells := [v1, v2], esz := 0 }) = g9 at *
  generalize (g7.alloc { cells := [], esz := 0 }).next = z at *
  rw [← hbb] at hb9
  clear hst
  refine wp_doneK Call.mono (leastLoop k9 k9 (.refl _) hk4.2 hR2.len1 fl3 (n1.ext x9 m7.2) gz9 hb9 hR3 (IL.empty _ _ _) rfl rfl rfl rfl rfl) ?_
  rintro e ρ1 g10 ⟨rfl, k10, x10, il14⟩ keep
  have ρ1_3 : ρ1 3 = .int .i64 n := by rw [keep 3 (of_decide_eq_true rfl)]; first | rfl | assumption
  have ρ1_7 : ρ1 7 = w7 := by rw [keep 7 (of_decide_eq_true rfl)]; first | rfl | assumption
  clear keep
  generalize hw14 : ρ1 14 = w14 at *
  have x310 : Ext g3 g10 := (((((m4.1.trans m5.1).trans m6.1).trans m7.1).trans x9).trans x10)
  have M7 := ol7.reads.mat.ext x310 m3.2
  have hrl : (List.map (bitList k) (S.drop n)).length = n - 1 := by simp [fl2]; omega
  obtain ⟨p, ur, a1, a2, a3, _⟩ := M7.row (i := n - 2) (by omega)
  have hrow : (List.map (bitList k) (S.drop n))[n - 2]'(by omega) = bitList k (S.getD (n + J.length - 1) 0) := by
    rw [List.getElem_map, List.getElem_drop, getD_in (by omega)]
    congr 2
    omega
  rw [hrow] at a3
  simp only [↓SP, SQ, SG, SL, ↓reduceIte, undef, iop, isShift, Nat.reduceEqDiff, reduceCtorEq, Nat.reduceAdd, Nat.reduceMul, Nat.reduceSub, Nat.reduceLT, Nat.reduceLeDiff, Int.reduceLT, Int.reduceLE, Int.reduceEq, Int.reduceGT, Int.reduceGE, Int.reduceNeg, Int.reduceToNat, ne_eq, if_true, if_false, List.map_cons, List.map_nil, Nat.le_refl, SM, r4_15,  ρ1_3, ρ1_7, hw14, w2, a1, a2]
  refine (same_spec a3 il14.ints).imp ?_
  rintro v h' ⟨rfl, rfl⟩
  simp only [↓SP, SQ, SG, SL, ↓reduceIte, undef, iop, isShift, Nat.reduceEqDiff, reduceCtorEq, Nat.reduceAdd, Nat.reduceMul, Nat.reduceSub, Nat.reduceLT, Nat.reduceLeDiff, Int.reduceLT, Int.reduceLE, Int.reduceEq, Int.reduceGT, Int.reduceGE, Int.reduceNeg, Int.reduceToNat, ne_eq, if_true, if_false, List.map_cons, List.map_nil]

end Go.AM.K
