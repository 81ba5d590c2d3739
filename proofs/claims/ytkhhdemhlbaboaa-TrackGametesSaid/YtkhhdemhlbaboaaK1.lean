/- Track: the contracts of the reference's tests and of the law's copies. -/
import Derived.Test.YtkhhdemhlbaboaaAMS
import Derived.Test.YtkhhdemhlbaboaaAM17
import Derived.Test.YtkhhdemhlbaboaaLives
import Derived.Test.YtkhhdemhlbaboaaTP1
set_option linter.unusedVariables false
set_option linter.unusedSimpArgs false
set_option maxRecDepth 20000
namespace Go.AM.K
open Go.AM Go.AM.Fn Go.AM.TP
attribute [local congr] ite_cond

theorem in_spec {h : Heap} (v lo hi : Int) : Call T1 52 [.int .i64 v, .int .i64 lo, .int .i64 hi] h (fun u h' => u = .bool (decide (lo ≤ v ∧ v ≤ hi)) ∧ h' = h) := by
  refine Call.of (fn := f52) rfl (by simp [f52]) ?_
  unfold f52
  by_cases h1 : lo ≤ v
  · by_cases h2 : v ≤ hi
    · simp only [↓SP, SQ, SG, SL, ↓reduceIte, undef, iop, isShift, Nat.reduceEqDiff, reduceCtorEq, Nat.reduceAdd, Nat.reduceMul, Nat.reduceSub, Nat.reduceLT, Nat.reduceLeDiff, Int.reduceLT, Int.reduceLE, Int.reduceEq, Int.reduceGT, Int.reduceGE, Int.reduceNeg, Int.reduceToNat, ne_eq, if_true, if_false, List.map_cons, List.map_nil, Nat.le_refl, SM, r52_0, r52_1, h1, h2, and_self]
    · simp only [↓SP, SQ, SG, SL, ↓reduceIte, undef, iop, isShift, Nat.reduceEqDiff, reduceCtorEq, Nat.reduceAdd, Nat.reduceMul, Nat.reduceSub, Nat.reduceLT, Nat.reduceLeDiff, Int.reduceLT, Int.reduceLE, Int.reduceEq, Int.reduceGT, Int.reduceGE, Int.reduceNeg, Int.reduceToNat, ne_eq, if_true, if_false, List.map_cons, List.map_nil, Nat.le_refl, SM, r52_0, r52_1, h1, h2, and_false]
  · simp only [↓SP, SQ, SG, SL, ↓reduceIte, undef, iop, isShift, Nat.reduceEqDiff, reduceCtorEq, Nat.reduceAdd, Nat.reduceMul, Nat.reduceSub, Nat.reduceLT, Nat.reduceLeDiff, Int.reduceLT, Int.reduceLE, Int.reduceEq, Int.reduceGT, Int.reduceGE, Int.reduceNeg, Int.reduceToNat, ne_eq, if_true, if_false, List.map_cons, List.map_nil, Nat.le_refl, SM, r52_0, r52_1, h1, false_and]

theorem states_spec {h : Heap} {n k : Int} {l : Value} {xs : List Int} (hl : Ints h l xs) (hk : 0 ≤ k ∧ k ≤ 4611686018427387904) : Call T1 40 [.int .i64 n, .int .i64 k, l] h (fun v h' => v = .bool (statesB n k xs) ∧ h' = h) := by
  refine Call.of (fn := f40) rfl (by simp [f40]) ?_
  unfold f40
  have hlen := hl.len
  have hsm := hl.small
  have w1 : IntKind.wrap .i64 (k - 1) = k - 1 := by rw [wrap_in] <;> omega
  simp only [↓SP, SQ, SG, SL, ↓reduceIte, undef, iop, isShift, Nat.reduceEqDiff, reduceCtorEq, Nat.reduceAdd, Nat.reduceMul, Nat.reduceSub, Nat.reduceLT, Nat.reduceLeDiff, Int.reduceLT, Int.reduceLE, Int.reduceEq, Int.reduceGT, Int.reduceGE, Int.reduceNeg, Int.reduceToNat, ne_eq, if_true, if_false, List.map_cons, List.map_nil, Nat.le_refl, SM, r40_0, r40_1]
  refine wp_loopK Call.mono (fun q ρ g => g = h ∧ ∃ i : Nat, ρ 7 = .int .i64 i ∧ i + q = xs.length ∧ (xs.drop i).all (fun s => decide (0 ≤ s ∧ s < k)) = xs.all (fun s => decide (0 ≤ s ∧ s < k))) ?_ (m := xs.length) ⟨rfl, 0, rfl, by omega, by simp⟩
  rintro q ρ g ⟨rfl, i, q7, hq, hall⟩ keep
  have ρ_0 : ρ 0 = .int .i64 n := by rw [keep 0 (of_decide_eq_true rfl)]; first | rfl | assumption
  have ρ_1 : ρ 1 = .int .i64 k := by rw [keep 1 (of_decide_eq_true rfl)]; first | rfl | assumption
  have ρ_2 : ρ 2 = l := by rw [keep 2 (of_decide_eq_true rfl)]; first | rfl | assumption
  unfold b40_1
  by_cases hi : i < xs.length
  · obtain ⟨p, e1, e2⟩ := hl.row hi
    rw [List.drop_eq_getElem_cons hi, List.all_cons] at hall
    simp only [↓SP, SQ, SG, SL, ↓reduceIte, undef, iop, isShift, Nat.reduceEqDiff, reduceCtorEq, Nat.reduceAdd, Nat.reduceMul, Nat.reduceSub, Nat.reduceLT, Nat.reduceLeDiff, Int.reduceLT, Int.reduceLE, Int.reduceEq, Int.reduceGT, Int.reduceGE, Int.reduceNeg, Int.reduceToNat, ne_eq, if_true, if_false, List.map_cons, List.map_nil, Nat.le_refl, SM, r40_2, r40_3, r40_4, r40_5,  ρ_0, ρ_1, ρ_2, q7, hlen, hi, e1, e2, w1]
    refine (in_spec _ _ _).imp ?_
    rintro v h' ⟨rfl, rfl⟩
    by_cases hc : 0 ≤ xs[i] ∧ xs[i] ≤ k - 1
    · have hc' : 0 ≤ xs[i] ∧ xs[i] < k := by omega
      simp only [↓SP, SQ, SG, SL, ↓reduceIte, undef, iop, isShift, Nat.reduceEqDiff, reduceCtorEq, Nat.reduceAdd, Nat.reduceMul, Nat.reduceSub, Nat.reduceLT, Nat.reduceLeDiff, Int.reduceLT, Int.reduceLE, Int.reduceEq, Int.reduceGT, Int.reduceGE, Int.reduceNeg, Int.reduceToNat, ne_eq, if_true, if_false, List.map_cons, List.map_nil, Nat.le_refl, SM, r40_2, r40_3, r40_4, r40_5,  ρ_0, ρ_1, ρ_2, q7, hc, and_self, wrap_succ hi hsm]
      rw [decide_eq_true hc', Bool.true_and] at hall
      exact ⟨q - 1, by omega, i + 1, rfl, by omega, hall⟩
    · have hc' : ¬ (0 ≤ xs[i] ∧ xs[i] < k) := by omega
      simp only [↓SP, SQ, SG, SL, ↓reduceIte, undef, iop, isShift, Nat.reduceEqDiff, reduceCtorEq, Nat.reduceAdd, Nat.reduceMul, Nat.reduceSub, Nat.reduceLT, Nat.reduceLeDiff, Int.reduceLT, Int.reduceLE, Int.reduceEq, Int.reduceGT, Int.reduceGE, Int.reduceNeg, Int.reduceToNat, ne_eq, if_true, if_false, List.map_cons, List.map_nil, Nat.le_refl, SM, r40_2, r40_3, r40_4, r40_5,  ρ_0, ρ_1, ρ_2, q7, hc]
      rw [decide_eq_false hc', Bool.false_and] at hall
      rw [statesB, ← hall, Bool.and_false]
  · simp only [↓SP, SQ, SG, SL, ↓reduceIte, undef, iop, isShift, Nat.reduceEqDiff, reduceCtorEq, Nat.reduceAdd, Nat.reduceMul, Nat.reduceSub, Nat.reduceLT, Nat.reduceLeDiff, Int.reduceLT, Int.reduceLE, Int.reduceEq, Int.reduceGT, Int.reduceGE, Int.reduceNeg, Int.reduceToNat, ne_eq, if_true, if_false, List.map_cons, List.map_nil, Nat.le_refl, SM, r40_2, r40_6,  ρ_0, ρ_1, ρ_2, q7, hlen, hi]
    have hii : i = xs.length := by omega
    subst hii
    rw [List.drop_length, List.all_nil] at hall
    rw [statesB, ← hall, Bool.and_true]
    by_cases hn : (xs.length : Int) = n
    · simp [hn]
    · simp [hn]

theorem few_spec {h : Heap} (k : Ok h) {n : Int} {j : Value} {js : List (Int × Int)} (hj : Pairs h j js) (hf : Fit j) : Call T1 10 [.agg #[.int .i64 n, j]] h (fun v h' => ∃ u, v = .tuple #[.int .i64 n, u] ∧ Pairs h' u (js.take 9) ∧ Fit u ∧ More h h') := by
  refine (Call.more k (R := fun v h' => ∃ u, v = .tuple #[.int .i64 n, u] ∧ Pairs h' u (js.take 9) ∧ Fit u) ?_).imp (fun v h' ⟨⟨u, a, b, c⟩, d⟩ => ⟨u, a, b, c, d⟩)
  refine Call.of (fn := f10) rfl (by simp [f10]) ?_
  unfold f10
  have hlen := hj.len
  have hsm := hj.small
  have hmn : (if (9 : Int) < (js.length : Int) then (9 : Int) else (js.length : Int)) = ((min js.length 9 : Nat) : Int) := by split <;> omega
  have hk := k.le
  have x1 : Ext h (h.alloc { cells := [.int .i64 n, j], esz := 0 }) := .alloc _ _
  have k1 : Ok (h.alloc { cells := [.int .i64 n, j], esz := 0 }) := k.alloc _
  have x2 : Ext h ((h.alloc { cells := [.int .i64 n, j], esz := 0 }).alloc { cells := [], esz := 0 }) := x1.alloc' _
  have k2 := k1.alloc { cells := [], esz := 0 }
  obtain ⟨v', hcut, rc, _, _⟩ := Reads.cut (Reads.ext x2 k hj) hf (a := 0) (b := min js.length 9) (Nat.zero_le _) (by omega)
  have hc : (((js.flatMap pairCells).drop (0 * 2)).take ((min js.length 9 - 0) * 2)) = (js.take 9).flatMap pairCells := by
    have e : js.flatMap pairCells = (js.take (min js.length 9)).flatMap pairCells ++ (js.drop (min js.length 9)).flatMap pairCells := by rw [← List.flatMap_append, List.take_append_drop]
    have l : ((js.take (min js.length 9)).flatMap pairCells).length = (min js.length 9) * 2 := by
      rw [flatMap_length (sz := 2) (fun _ => rfl)]; simp
    rw [Nat.zero_mul, List.drop_zero, Nat.sub_zero, e, ← l, List.take_left]
    congr 1
    by_cases h9 : js.length ≤ 9
    · rw [Nat.min_eq_left h9, List.take_length, List.take_of_length_le h9]
    · rw [Nat.min_eq_right (by omega)]
  rw [hc] at rc
  have hones : ((js.take 9).flatMap pairCells).all (·.oneCell') = true := by
    rw [List.all_eq_true]
    intro x hx
    obtain ⟨p, _, hp⟩ := List.mem_flatMap.1 hx
    simp only [pairCells, List.mem_cons, List.not_mem_nil, or_false] at hp
    rcases hp with rfl | rfl <;> rfl
  obtain ⟨u, g, hap, ow, xg, kg⟩ := Own.append (h0 := h) (bytes := 16) x2 k2 (Own.empty h _ 2 (h.next + 1)) rc hones (by omega) (by omega) (by omega)
  have own2 : Own h g u (min js.length 9) 2 ((js.take 9).flatMap pairCells) := by simpa using ow
  have hcell : ((h.alloc { cells := [.int .i64 n, j], esz := 0 }).alloc { cells := [], esz := 0 }).get h.next = some { cells := [.int .i64 n, j], esz := 0 } := by simp [Heap.alloc]
  have hjc : j.cells.toList = [j] := by unfold Fit at hf; split at hf <;> first | rfl | exact hf.elim
  have hrd : rdA ((h.alloc { cells := [.int .i64 n, j], esz := 0 }).alloc { cells := [], esz := 0 }) (.pointer (some ⟨h.next, 0, none⟩)) 1 = rdA g (.pointer (some ⟨h.next, 0, none⟩)) 1 := by
    have xx : Ext (h.alloc { cells := [.int .i64 n, j], esz := 0 }) g := by
      obtain ⟨_, _, hap2, _, xg2, _⟩ := Own.append (h0 := h.alloc { cells := [.int .i64 n, j], esz := 0 }) (bytes := 16) (.alloc _ _) k2 (Own.empty _ _ 2 (h.next + 1)) rc hones (by omega) (by omega) (by omega)
      rw [hap] at hap2
      simp only [Option.some.injEq, Prod.mk.injEq] at hap2
      obtain ⟨_, rfl⟩ := hap2
      exact xg2
    refine (rdA_congr (by rw [xg.base]; rfl) ?_).symm
    rw [xx.get _ (by simp [Heap.alloc]), hcell]; simp [Heap.alloc]
  simp only [↓SP, SQ, SG, SL, ↓reduceIte, undef, iop, isShift, Nat.reduceEqDiff, reduceCtorEq, Nat.reduceAdd, Nat.reduceMul, Nat.reduceSub, Nat.reduceLT, Nat.reduceLeDiff, Int.reduceLT, Int.reduceLE, Int.reduceEq, Int.reduceGT, Int.reduceGE, Int.reduceNeg, Int.reduceToNat, ne_eq, if_true, if_false, List.map_cons, List.map_nil, Nat.le_refl, SM, r10_0, r10_1, hlen, hmn, hcut, hk, List.size_toArray, hap, hrd]
  refine ⟨⟨u, rfl, ?_, own2.fit⟩, xg⟩
  have := own2.reads
  unfold Pairs
  rw [List.length_take, Nat.min_comm]; exact this

theorem cut_spec {h : Heap} (k : Ok h) {l : Value} {xs : List Int} (hl : Ints h l xs) (hf : Fit l) : Call T1 12 [l] h (fun v h' => Ints h' v (xs.take 9) ∧ Fit v ∧ v.oneCell' = true ∧ v.cells.toList = [v] ∧ (∀ i, InBlk v i → h.next ≤ i) ∧ More h h') := by
  refine (Call.more k (R := fun v h' => Ints h' v (xs.take 9) ∧ Fit v ∧ v.oneCell' = true ∧ v.cells.toList = [v] ∧ (∀ i, InBlk v i → h.next ≤ i)) ?_).imp (fun v h' ⟨⟨a, b, c, d, o⟩, e⟩ => ⟨a, b, c, d, o, e⟩)
  refine Call.of (fn := f12) rfl (by simp [f12]) ?_
  unfold f12
  have hlen := hl.len
  have hsm := hl.small
  have hmn : (if (9 : Int) < (xs.length : Int) then (9 : Int) else (xs.length : Int)) = ((min xs.length 9 : Nat) : Int) := by split <;> omega
  have x1 : Ext h (h.alloc { cells := [], esz := 0 }) := .alloc _ _
  have k1 : Ok (h.alloc { cells := [], esz := 0 }) := k.alloc _
  obtain ⟨v', hcut, rc, _, _⟩ := Reads.cut (Reads.ext x1 k hl) hf (a := 0) (b := min xs.length 9) (Nat.zero_le _) (by omega)
  have hc : (((xs.map (Value.int .i64)).drop (0 * 1)).take ((min xs.length 9 - 0) * 1)) = (xs.take 9).map (Value.int .i64) := by
    rw [Nat.zero_mul, List.drop_zero, Nat.sub_zero, Nat.mul_one, List.map_take]
    by_cases h9 : xs.length ≤ 9
    · rw [Nat.min_eq_left h9, List.take_of_length_le (by simp), List.take_of_length_le (by simpa using h9)]
    · rw [Nat.min_eq_right (by omega)]
  rw [hc] at rc
  have hones : ((xs.take 9).map (Value.int .i64)).all (·.oneCell') = true := by
    rw [List.all_eq_true]
    intro x hx
    obtain ⟨p, _, rfl⟩ := List.mem_map.1 hx
    rfl
  obtain ⟨u, g, hap, ow, xg, kg⟩ := Own.append (h0 := h) (bytes := 8) x1 k1 (Own.empty h _ 1 h.next) rc hones (by omega) (by omega) (by omega)
  have own2 : Own h g u (min xs.length 9) 1 ((xs.take 9).map (Value.int .i64)) := by simpa using ow
  simp only [↓SP, SQ, SG, SL, ↓reduceIte, undef, iop, isShift, Nat.reduceEqDiff, reduceCtorEq, Nat.reduceAdd, Nat.reduceMul, Nat.reduceSub, Nat.reduceLT, Nat.reduceLeDiff, Int.reduceLT, Int.reduceLE, Int.reduceEq, Int.reduceGT, Int.reduceGE, Int.reduceNeg, Int.reduceToNat, ne_eq, if_true, if_false, List.map_cons, List.map_nil, Nat.le_refl, SM, r12_0, r12_1, hlen, hmn, hcut, hap]
  refine ⟨⟨?_, own2.fit, ?_, ?_, fun i hi => own2.blk hi⟩, xg⟩
  · have := own2.reads
    unfold Ints
    rw [List.length_take, Nat.min_comm]; exact this
  · rcases own2.at_ with ⟨rfl | ⟨b, rfl⟩, _⟩ | ⟨b, e, ⟨rfl, _⟩ | ⟨rfl, _⟩, _⟩ <;> rfl
  · rcases own2.at_ with ⟨rfl | ⟨b, rfl⟩, _⟩ | ⟨b, e, ⟨rfl, _⟩ | ⟨rfl, _⟩, _⟩ <;> rfl

theorem costs_spec {h : Heap} {c : Value} {rows : List (List Int)} (hc : Mat h c rows) : Call T1 39 [c] h (fun v h' => v = .bool (costsB rows) ∧ h' = h) := by
  refine Call.of (fn := f39) rfl (by simp [f39]) ?_
  unfold f39
  have hlen := hc.len
  have hsm := hc.small
  simp only [↓SP, SQ, SG, SL, ↓reduceIte, undef, iop, isShift, Nat.reduceEqDiff, reduceCtorEq, Nat.reduceAdd, Nat.reduceMul, Nat.reduceSub, Nat.reduceLT, Nat.reduceLeDiff, Int.reduceLT, Int.reduceLE, Int.reduceEq, Int.reduceGT, Int.reduceGE, Int.reduceNeg, Int.reduceToNat, ne_eq, if_true, if_false, List.map_cons, List.map_nil, Nat.le_refl, SM, r39_0, r39_1]
  refine wp_loopK Call.mono (fun q ρ g => g = h ∧ ∃ i : Nat, ρ 3 = .int .i64 i ∧ i + q = rows.length ∧ (rows.drop i).all (rowB rows.length) = rows.all (rowB rows.length)) ?_ (m := rows.length) ⟨rfl, 0, rfl, by omega, by simp⟩
  rintro q ρ g ⟨rfl, i, q3, hq, hall⟩ keep
  have ρ_0 : ρ 0 = c := by rw [keep 0 (of_decide_eq_true rfl)]; first | rfl | assumption
  unfold b39_2
  by_cases hi : i < rows.length
  · obtain ⟨p, u, e1, e2, hu, _⟩ := hc.row hi
    have hul := hu.len
    have hus := hu.small
    rw [List.drop_eq_getElem_cons hi, List.all_cons] at hall
    by_cases hr : rows[i].length = rows.length
    · have hr' : (rows[i].length : Int) = (rows.length : Int) := by omega
      simp only [↓SP, SQ, SG, SL, ↓reduceIte, undef, iop, isShift, Nat.reduceEqDiff, reduceCtorEq, Nat.reduceAdd, Nat.reduceMul, Nat.reduceSub, Nat.reduceLT, Nat.reduceLeDiff, Int.reduceLT, Int.reduceLE, Int.reduceEq, Int.reduceGT, Int.reduceGE, Int.reduceNeg, Int.reduceToNat, ne_eq, if_true, if_false, List.map_cons, List.map_nil, Nat.le_refl, SM, r39_2, r39_4, r39_6,  ρ_0, q3, hlen, hi, e1, e2, hul, hr', hr]
      refine wp_loopK Call.mono (fun q' ρ' g' => g' = g ∧ ∃ j : Nat, ρ' 4 = .int .i64 j ∧ j + q' = rows.length ∧ (rows[i].drop j).all (fun c => decide (0 ≤ c ∧ c ≤ 100)) = rows[i].all (fun c => decide (0 ≤ c ∧ c ≤ 100))) ?_ (m := rows.length) ⟨rfl, 0, rfl, by omega, by simp⟩
      rintro q' ρ' g' ⟨rfl, j, r4, hq', hall'⟩ keep
      have ρ'_0 : ρ' 0 = c := by rw [keep 0 (of_decide_eq_true rfl)]; first | rfl | assumption
      have ρ'_3 : ρ' 3 = .int .i64 i := by rw [keep 3 (of_decide_eq_true rfl)]; first | rfl | assumption
      unfold b39_1
      by_cases hj : j < rows.length
      · have hj' : j < rows[i].length := by omega
        obtain ⟨p2, f1, f2⟩ := hu.row hj'
        rw [List.drop_eq_getElem_cons hj', List.all_cons] at hall'
        simp only [↓SP, SQ, SG, SL, ↓reduceIte, undef, iop, isShift, Nat.reduceEqDiff, reduceCtorEq, Nat.reduceAdd, Nat.reduceMul, Nat.reduceSub, Nat.reduceLT, Nat.reduceLeDiff, Int.reduceLT, Int.reduceLE, Int.reduceEq, Int.reduceGT, Int.reduceGE, Int.reduceNeg, Int.reduceToNat, ne_eq, if_true, if_false, List.map_cons, List.map_nil, Nat.le_refl, SM, r39_7, r39_9,  ρ'_0, ρ'_3, r4, hlen, hj, e1, e2, f1, f2]
        refine (in_spec _ _ _).imp ?_
        rintro v h' ⟨rfl, rfl⟩
        by_cases hcc : 0 ≤ rows[i][j] ∧ rows[i][j] ≤ 100
        · simp only [↓SP, SQ, SG, SL, ↓reduceIte, undef, iop, isShift, Nat.reduceEqDiff, reduceCtorEq, Nat.reduceAdd, Nat.reduceMul, Nat.reduceSub, Nat.reduceLT, Nat.reduceLeDiff, Int.reduceLT, Int.reduceLE, Int.reduceEq, Int.reduceGT, Int.reduceGE, Int.reduceNeg, Int.reduceToNat, ne_eq, if_true, if_false, List.map_cons, List.map_nil, Nat.le_refl, SM, r39_8,  ρ'_0, ρ'_3, r4, hcc, and_self, wrap_succ hj hsm]
          rw [decide_eq_true hcc, Bool.true_and] at hall'
          exact ⟨q' - 1, by omega, j + 1, rfl, by omega, hall'⟩
        · simp only [↓SP, SQ, SG, SL, ↓reduceIte, undef, iop, isShift, Nat.reduceEqDiff, reduceCtorEq, Nat.reduceAdd, Nat.reduceMul, Nat.reduceSub, Nat.reduceLT, Nat.reduceLeDiff, Int.reduceLT, Int.reduceLE, Int.reduceEq, Int.reduceGT, Int.reduceGE, Int.reduceNeg, Int.reduceToNat, ne_eq, if_true, if_false, List.map_cons, List.map_nil, Nat.le_refl, SM, r39_10,  ρ'_0, ρ'_3, r4, hcc]
          rw [decide_eq_false hcc, Bool.false_and] at hall'
          have : rowB rows.length rows[i] = false := by rw [rowB, ← hall', Bool.and_false]
          rw [costsB, ← hall, this, Bool.false_and, Bool.and_false]
      · have hjj : j = rows[i].length := by omega
        simp only [↓SP, SQ, SG, SL, ↓reduceIte, undef, iop, isShift, Nat.reduceEqDiff, reduceCtorEq, Nat.reduceAdd, Nat.reduceMul, Nat.reduceSub, Nat.reduceLT, Nat.reduceLeDiff, Int.reduceLT, Int.reduceLE, Int.reduceEq, Int.reduceGT, Int.reduceGE, Int.reduceNeg, Int.reduceToNat, ne_eq, if_true, if_false, List.map_cons, List.map_nil, Nat.le_refl, SM, r39_3, r39_7,  ρ'_0, ρ'_3, r4, hlen, hj, wrap_succ hi hsm]
        rw [hjj, List.drop_length, List.all_nil] at hall'
        have : rowB rows.length rows[i] = true := by rw [rowB, ← hall', Bool.and_true, decide_eq_true hr]
        rw [this, Bool.true_and] at hall
        exact ⟨q - 1, by omega, i + 1, rfl, by omega, hall⟩
    · have hr' : ¬ (rows[i].length : Int) = (rows.length : Int) := by omega
      simp only [↓SP, SQ, SG, SL, ↓reduceIte, undef, iop, isShift, Nat.reduceEqDiff, reduceCtorEq, Nat.reduceAdd, Nat.reduceMul, Nat.reduceSub, Nat.reduceLT, Nat.reduceLeDiff, Int.reduceLT, Int.reduceLE, Int.reduceEq, Int.reduceGT, Int.reduceGE, Int.reduceNeg, Int.reduceToNat, ne_eq, if_true, if_false, List.map_cons, List.map_nil, Nat.le_refl, SM, r39_2, r39_4, r39_5,  ρ_0, q3, hlen, hi, e1, e2, hul, hr', hr]
      have : rowB rows.length rows[i] = false := by rw [rowB, decide_eq_false hr, Bool.false_and]
      rw [costsB, ← hall, this, Bool.false_and, Bool.and_false]
  · have hii : i = rows.length := by omega
    simp only [↓SP, SQ, SG, SL, ↓reduceIte, undef, iop, isShift, Nat.reduceEqDiff, reduceCtorEq, Nat.reduceAdd, Nat.reduceMul, Nat.reduceSub, Nat.reduceLT, Nat.reduceLeDiff, Int.reduceLT, Int.reduceLE, Int.reduceEq, Int.reduceGT, Int.reduceGE, Int.reduceNeg, Int.reduceToNat, ne_eq, if_true, if_false, List.map_cons, List.map_nil, Nat.le_refl, SM, r39_2, r39_11,  ρ_0, q3, hlen, hi]
    refine (in_spec _ _ _).imp ?_
    rintro v h' ⟨rfl, rfl⟩
    simp only [↓SP, SQ, SG, SL, ↓reduceIte, undef, iop, isShift, Nat.reduceEqDiff, reduceCtorEq, Nat.reduceAdd, Nat.reduceMul, Nat.reduceSub, Nat.reduceLT, Nat.reduceLeDiff, Int.reduceLT, Int.reduceLE, Int.reduceEq, Int.reduceGT, Int.reduceGE, Int.reduceNeg, Int.reduceToNat, ne_eq, if_true, if_false, List.map_cons, List.map_nil]
    rw [hii, List.drop_length, List.all_nil] at hall
    rw [costsB, ← hall, Bool.and_true]
    congr 1
    apply decide_eq_decide.2
    omega

end Go.AM.K
