/- Track: costs below a node; the tables of all nodes. -/
import Derived.Test.YtkhhdemhlbaboaaAMS
import Derived.Test.YtkhhdemhlbaboaaK4
set_option linter.unusedVariables false
set_option linter.unusedSimpArgs false
set_option maxRecDepth 20000
namespace Go.AM.K
open Go.AM Go.AM.Fn Go.AM.TP
attribute [local congr] ite_cond

theorem cost_spec {h : Heap} {pc : Nat} {c : Value} {costs : List (List Int)} {e : Nat} (hb : h.base ≤ pc) (hg : h.get pc = some { cells := [c], esz := e }) (hc : Mat h c costs) {p s : Nat} (hp : p < costs.length) (hs : s < costs[p].length) :
    Call T1 59 [.int .i64 p, .int .i64 s, .pointer (some ⟨pc, 0, none⟩)] h (fun v h' => v = .int .i64 costs[p][s] ∧ h' = h) := by
  refine Call.of (fn := f59) rfl (by simp [f59]) ?_
  unfold f59
  obtain ⟨a, u, e1, e2, hu, _⟩ := hc.row hp
  obtain ⟨b, e3, e4⟩ := hu.row hs
  simp only [↓SP, SQ, SG, SL, ↓reduceIte, undef, iop, isShift, Nat.reduceEqDiff, reduceCtorEq, Nat.reduceAdd, Nat.reduceMul, Nat.reduceSub, Nat.reduceLT, Nat.reduceLeDiff, Int.reduceLT, Int.reduceLE, Int.reduceEq, Int.reduceGT, Int.reduceGE, Int.reduceNeg, Int.reduceToNat, ne_eq, if_true, if_false, List.map_cons, List.map_nil, Nat.le_refl, SM, r59_0, r59_1, hb, hg, e1, e2, e3, e4]

theorem fine_cell {k : Nat} {t : Tab} (ft : Fine k t) {i : Nat} (hi : i < k) : t.1.getD i 0 ≤ far ∧ 0 ≤ t.1.getD i 0 ∧ 0 ≤ t.2.getD i 0 ∧ t.2.getD i 0 ≤ 268435456 ∧ (t.2.getD i 0 ≠ 0 → t.1.getD i 0 ≤ 2000) := by
  rcases ft.cell i hi with c | c
  · refine ⟨by rw [c.1]; exact Int.le_refl _, by rw [c.1]; decide, by omega, by omega, fun h => absurd c.2 h⟩
  · refine ⟨by unfold far; omega, by omega, by omega, by omega, fun _ => by omega⟩

set_option maxHeartbeats 1000000 in
theorem below_spec {h : Heap} (kk : Ok h) {pp : Nat} {p : Value} {n : Int} {k : Nat} {js : List (Int × Int)} {costs : List (List Int)} {leaves : List Int} (P : Prob h p n k js costs leaves) (hpp : h.base ≤ pp) {e : Nat} (gpp : h.get pp = some { cells := [p], esz := e })
    (hc : costsB costs = true) (hk : costs.length = k) {t : Tab} {v w : Value} (hv : Ints h v t.1) (hw : Ints h w t.2) (fv : Fit v) (fw : Fit w) (ft : Fine k t) {s : Nat} (hs : s < k) :
    Call T1 71 [.agg #[v, w], .int .i64 s, .pointer (some ⟨pp, 0, none⟩)] h (fun u h' => u = .tuple #[.int .i64 (belowN t (costs.getD s []) k).1, .int .i64 (belowN t (costs.getD s []) k).2] ∧ More h h') := by
  refine Call.more kk ?_
  refine Call.of (fn := f71) rfl (by simp [f71]) ?_
  unfold f71
  have x1 : Ext h (h.alloc { cells := [v, w], esz := 0 }) := .alloc _ _
  have k1 : Ok (h.alloc { cells := [v, w], esz := 0 }) := kk.alloc _
  obtain ⟨b, pc, j, l, c, rfl, p1, p2, p3, p4, p5, p6, p7⟩ := (P.ext x1 kk).out
  have hbn : h.base ≤ h.next := kk.le
  have gt : (h.alloc { cells := [v, w], esz := 0 }).get h.next = some { cells := [v, w], esz := 0 } := by simp [Heap.alloc]
  have gp : (h.alloc { cells := [v, w], esz := 0 }).get pp = some { cells := [.pointer (some ⟨b, 0, none⟩)], esz := e } := by rw [x1.get _ (kk.lt gpp)]; exact gpp
  have hbase : (h.alloc { cells := [v, w], esz := 0 }).base = h.base := rfl
  have hv1 := hv.ext x1 kk
  have hw1 := hw.ext x1 kk
  have hrow := costs_row hc (s := s) (by omega)
  have hk4 : k ≤ 4 := by simp only [costsB, Bool.and_eq_true, decide_eq_true_eq] at hc; omega
  have hs' : s < costs.length := by omega
  have hcs : costs.getD s [] = costs[s] := getD_in hs' _
  rw [hk] at hrow
  simp only [↓SP, SQ, SG, SL, ↓reduceIte, undef, iop, isShift, Nat.reduceEqDiff, reduceCtorEq, Nat.reduceAdd, Nat.reduceMul, Nat.reduceSub, Nat.reduceLT, Nat.reduceLeDiff, Int.reduceLT, Int.reduceLE, Int.reduceEq, Int.reduceGT, Int.reduceGE, Int.reduceNeg, Int.reduceToNat, ne_eq, if_true, if_false, List.map_cons, List.map_nil, r71_0, r71_1, r71_2,  List.size_toArray]
  generalize (h.alloc { cells := [v, w], esz := 0 }) = g at *
  rw [← hbase] at hbn hpp
  simp only [↓SP, SQ, SG, SL, ↓reduceIte, undef, iop, isShift, Nat.reduceEqDiff, reduceCtorEq, Nat.reduceAdd, Nat.reduceMul, Nat.reduceSub, Nat.reduceLT, Nat.reduceLeDiff, Int.reduceLT, Int.reduceLE, Int.reduceEq, Int.reduceGT, Int.reduceGE, Int.reduceNeg, Int.reduceToNat, ne_eq, if_true, if_false, List.map_cons, List.map_nil, Nat.le_refl, SM, gp, gt, hbn, hpp, p1, p3]
  refine wp_loopK Call.mono (fun q ρ g' => g' = g ∧ ∃ i : Nat, ρ 15 = .int .i64 i ∧ i + q = k ∧ ρ 7 = .int .i64 (belowN t (costs.getD s []) i).1 ∧ ρ 8 = .int .i64 (belowN t (costs.getD s []) i).2) ?_ (m := k) ⟨rfl, 0, rfl, by omega, rfl, rfl⟩
  rintro q ρ g' ⟨rfl, i, q15, hq, q7, q8⟩ keep
  have ρ_1 : ρ 1 = .int .i64 s := by rw [keep 1 (of_decide_eq_true rfl)]; first | rfl | assumption
  have ρ_2 : ρ 2 = .pointer (some ⟨pp, 0, none⟩) := by rw [keep 2 (of_decide_eq_true rfl)]; first | rfl | assumption
  have ρ_3 : ρ 3 = .pointer (some ⟨h.next, 0, none⟩) := by rw [keep 3 (of_decide_eq_true rfl)]; first | rfl | assumption
  have ρ_14 : ρ 14 = .int .i64 k := by rw [keep 14 (of_decide_eq_true rfl)]; first | rfl | assumption
  unfold b71_1
  by_cases hi : i < k
  rotate_left
  · have hii : i = k := by omega
    subst hii
    simp only [↓SP, SQ, SG, SL, ↓reduceIte, undef, iop, isShift, Nat.reduceEqDiff, reduceCtorEq, Nat.reduceAdd, Nat.reduceMul, Nat.reduceSub, Nat.reduceLT, Nat.reduceLeDiff, Int.reduceLT, Int.reduceLE, Int.reduceEq, Int.reduceGT, Int.reduceGE, Int.reduceNeg, Int.reduceToNat, ne_eq, if_true, if_false, List.map_cons, List.map_nil, Nat.le_refl, SM, r71_3, r71_12,  ρ_1, ρ_2, ρ_3, ρ_14, q15, q7, q8, Nat.lt_irrefl]
    exact x1
  have hi1 : i < t.1.length := by rw [ft.len1]; exact hi
  have hi2 : i < t.2.length := by rw [ft.len2]; exact hi
  obtain ⟨a1, e1, e2⟩ := hv1.row hi1
  obtain ⟨a2, e3, e4⟩ := hw1.row hi2
  have c1 : t.1.getD i 0 = t.1[i] := getD_in hi1 _
  have c2 : t.2.getD i 0 = t.2[i] := getD_in hi2 _
  have hcell := fine_cell ft hi
  have hrc := hrow.2 i hi
  have hi3 : i < costs[s].length := by rw [← hcs, hrow.1]; exact hi
  have c3 : (costs.getD s []).getD i 0 = costs[s][i] := by rw [hcs, getD_in hi3]
  rw [c1, c2] at hcell
  rw [c3] at hrc
  have hnext : belowN t (costs.getD s []) (i + 1) = stepW (belowN t (costs.getD s []) i) t.1[i] t.2[i] costs[s][i] := by rw [belowN, c1, c2, c3]
  have hbw := below_wt ft (by decide) (by decide) (by decide) hrow.2 i (by omega)
  have hw3 : IntKind.wrap .i64 ((i : Int) + 1) = ((i + 1 : Nat) : Int) := by rw [wrap_in] <;> omega
  by_cases d1 : t.2[i] = 0
  · have hst : belowN t (costs.getD s []) (i + 1) = belowN t (costs.getD s []) i := by rw [hnext, stepW, if_pos d1]
    simp only [↓SP, SQ, SG, SL, ↓reduceIte, undef, iop, isShift, Nat.reduceEqDiff, reduceCtorEq, Nat.reduceAdd, Nat.reduceMul, Nat.reduceSub, Nat.reduceLT, Nat.reduceLeDiff, Int.reduceLT, Int.reduceLE, Int.reduceEq, Int.reduceGT, Int.reduceGE, Int.reduceNeg, Int.reduceToNat, ne_eq, if_true, if_false, List.map_cons, List.map_nil, Nat.le_refl, SM, r71_3, r71_4, r71_5, r71_11,  ρ_1, ρ_2, ρ_3, ρ_14, q15, hi, gt, hbn, e3, e4, d1, hw3]
    exact ⟨q - 1, by omega, i + 1, rfl, by omega, by rw [q7, hst], by rw [q8, hst]⟩
  have hbb : -1 ≤ (belowN t (costs.getD s []) i).1 ∧ (belowN t (costs.getD s []) i).1 ≤ far ∧ 0 ≤ (belowN t (costs.getD s []) i).2 ∧ (belowN t (costs.getD s []) i).2 ≤ 1073741824 := by
    rcases hbw with ⟨e, _⟩ | hbw
    · rw [e]; decide
    · have : (i : Int) * 268435456 ≤ 4 * 268435456 := Int.mul_le_mul_of_nonneg_right (by omega) (by decide)
      unfold far; omega
  have hw1' : IntKind.wrap .i64 (t.1[i] + costs[s][i]) = t.1[i] + costs[s][i] := by rw [wrap_in] <;> omega
  have hw2 : IntKind.wrap .i64 ((belowN t (costs.getD s []) i).2 + t.2[i]) = (belowN t (costs.getD s []) i).2 + t.2[i] := by rw [wrap_in] <;> omega
  simp only [↓SP, SQ, SG, SL, ↓reduceIte, undef, iop, isShift, Nat.reduceEqDiff, reduceCtorEq, Nat.reduceAdd, Nat.reduceMul, Nat.reduceSub, Nat.reduceLT, Nat.reduceLeDiff, Int.reduceLT, Int.reduceLE, Int.reduceEq, Int.reduceGT, Int.reduceGE, Int.reduceNeg, Int.reduceToNat, ne_eq, if_true, if_false, List.map_cons, List.map_nil, Nat.le_refl, SM, r71_3, r71_4, r71_5, r71_6,  ρ_1, ρ_2, ρ_3, ρ_14, q15, hi, gt, gp, hbn, hpp, p1, p3, e1, e2, e3, e4, d1]
  refine (cost_spec p2 p4 p7 (p := s) (s := i) hs' hi3).imp ?_
  rintro u g2 ⟨rfl, rfl⟩
  simp only [↓SP, SQ, SG, SL, ↓reduceIte, undef, iop, isShift, Nat.reduceEqDiff, reduceCtorEq, Nat.reduceAdd, Nat.reduceMul, Nat.reduceSub, Nat.reduceLT, Nat.reduceLeDiff, Int.reduceLT, Int.reduceLE, Int.reduceEq, Int.reduceGT, Int.reduceGE, Int.reduceNeg, Int.reduceToNat, ne_eq, if_true, if_false, List.map_cons, List.map_nil, Nat.le_refl, SM, r71_7,  ρ_1, ρ_2, ρ_3, ρ_14, q15, q7, q8, hw1']
  by_cases d2 : t.1[i] + costs[s][i] < (belowN t (costs.getD s []) i).1
  · have hst : belowN t (costs.getD s []) (i + 1) = (t.1[i] + costs[s][i], t.2[i]) := by rw [hnext, stepW, if_neg d1, if_pos d2]
    simp only [↓SP, SQ, SG, SL, ↓reduceIte, undef, iop, isShift, Nat.reduceEqDiff, reduceCtorEq, Nat.reduceAdd, Nat.reduceMul, Nat.reduceSub, Nat.reduceLT, Nat.reduceLeDiff, Int.reduceLT, Int.reduceLE, Int.reduceEq, Int.reduceGT, Int.reduceGE, Int.reduceNeg, Int.reduceToNat, ne_eq, if_true, if_false, List.map_cons, List.map_nil, Nat.le_refl, SM, r71_8, r71_11,  ρ_1, ρ_2, ρ_3, ρ_14, q15, d2, gt, hbn, e3, e4, hw3]
    exact ⟨q - 1, by omega, i + 1, rfl, by omega, by rw [hst], by rw [hst]⟩
  by_cases d3 : t.1[i] + costs[s][i] = (belowN t (costs.getD s []) i).1
  · have hst : belowN t (costs.getD s []) (i + 1) = ((belowN t (costs.getD s []) i).1, (belowN t (costs.getD s []) i).2 + t.2[i]) := by rw [hnext, stepW, if_neg d1, if_neg d2, if_pos d3]
    simp only [↓SP, SQ, SG, SL, ↓reduceIte, undef, iop, isShift, Nat.reduceEqDiff, reduceCtorEq, Nat.reduceAdd, Nat.reduceMul, Nat.reduceSub, Nat.reduceLT, Nat.reduceLeDiff, Int.reduceLT, Int.reduceLE, Int.reduceEq, Int.reduceGT, Int.reduceGE, Int.reduceNeg, Int.reduceToNat, ne_eq, if_true, if_false, List.map_cons, List.map_nil, Nat.le_refl, SM, r71_9, r71_10, r71_11,  ρ_1, ρ_2, ρ_3, ρ_14, q15, q7, q8, d2, d3, Int.lt_irrefl, gt, hbn, e3, e4, hw2, hw3]
    exact ⟨q - 1, by omega, i + 1, rfl, by omega, by rw [hst], by rw [hst]⟩
  · have hst : belowN t (costs.getD s []) (i + 1) = belowN t (costs.getD s []) i := by rw [hnext, stepW, if_neg d1, if_neg d2, if_neg d3]
    simp only [↓SP, SQ, SG, SL, ↓reduceIte, undef, iop, isShift, Nat.reduceEqDiff, reduceCtorEq, Nat.reduceAdd, Nat.reduceMul, Nat.reduceSub, Nat.reduceLT, Nat.reduceLeDiff, Int.reduceLT, Int.reduceLE, Int.reduceEq, Int.reduceGT, Int.reduceGE, Int.reduceNeg, Int.reduceToNat, ne_eq, if_true, if_false, List.map_cons, List.map_nil, Nat.le_refl, SM, r71_9, r71_11,  ρ_1, ρ_2, ρ_3, ρ_14, q15, q7, q8, d2, d3, hw3]
    exact ⟨q - 1, by omega, i + 1, rfl, by omega, by rw [hst], by rw [hst]⟩

theorem free_spec {h : Heap} (kk : Ok h) {p : Value} {n : Int} {k : Nat} {js : List (Int × Int)} {costs : List (List Int)} {leaves : List Int} (P : Prob h p n k js costs leaves) (hn : 2 ≤ n ∧ n ≤ 8) :
    Call T1 38 [p] h (fun v h' => Own h h' v (n - 1).toNat 1 ((List.replicate (n - 1).toNat (-1)).map (.int .i64)) ∧ More h h') := by
  refine Call.more kk ?_
  refine Call.of (fn := f38) rfl (by simp [f38]) ?_
  unfold f38
  have x1 : Ext h (h.alloc { cells := [.int .i64 (-1)], esz := 0 }) := .alloc _ _
  have k1 : Ok (h.alloc { cells := [.int .i64 (-1)], esz := 0 }) := kk.alloc _
  have hrow : Ints (h.alloc { cells := [.int .i64 (-1)], esz := 0 }) (.slice (some ⟨h.next, 0, none⟩) 1 1) [-1] := (Own.intsNew (h0 := h) (.refl _) kk [-1] (n := 1) (by omega) rfl).ints.1
  obtain ⟨b, pc, j, l, c, rfl, p1, p2, p3, p4, p5, p6, p7⟩ := (P.ext x1 kk).out
  have w1 : IntKind.wrap .i64 (n - 1) = (((n - 1).toNat : Nat) : Int) := by rw [wrap_in] <;> omega
  simp only [↓SP, SQ, SG, SL, ↓reduceIte, undef, iop, isShift, Nat.reduceEqDiff, reduceCtorEq, Nat.reduceAdd, Nat.reduceMul, Nat.reduceSub, Nat.reduceLT, Nat.reduceLeDiff, Int.reduceLT, Int.reduceLE, Int.reduceEq, Int.reduceGT, Int.reduceGE, Int.reduceNeg, Int.reduceToNat, ne_eq, if_true, if_false, List.map_cons, List.map_nil, r38_0, r38_1,  List.size_toArray, made_one]
  generalize (h.alloc { cells := [.int .i64 (-1)], esz := 0 }) = g at *
  simp only [↓SP, SQ, SG, SL, ↓reduceIte, undef, iop, isShift, Nat.reduceEqDiff, reduceCtorEq, Nat.reduceAdd, Nat.reduceMul, Nat.reduceSub, Nat.reduceLT, Nat.reduceLeDiff, Int.reduceLT, Int.reduceLE, Int.reduceEq, Int.reduceGT, Int.reduceGE, Int.reduceNeg, Int.reduceToNat, ne_eq, if_true, if_false, List.map_cons, List.map_nil, Nat.le_refl, SM, p1, p3, w1]
  refine (repeatInt_spec k1 hrow (n := (n - 1).toNat) (by omega) (by omega)).imp ?_
  rintro v g' ⟨own, mo⟩
  simp only [↓SP, SQ, SG, SL, ↓reduceIte, undef, iop, isShift, Nat.reduceEqDiff, reduceCtorEq, Nat.reduceAdd, Nat.reduceMul, Nat.reduceSub, Nat.reduceLT, Nat.reduceLeDiff, Int.reduceLT, Int.reduceLE, Int.reduceEq, Int.reduceGT, Int.reduceGE, Int.reduceNeg, Int.reduceToNat, ne_eq, if_true, if_false, List.map_cons, List.map_nil, Nat.le_refl, SM]
  exact ⟨own.elder x1.next, x1.trans mo.1⟩

end Go.AM.K
