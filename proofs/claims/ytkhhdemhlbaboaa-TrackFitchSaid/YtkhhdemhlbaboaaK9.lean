/- Track: the reference's tables. -/
import Derived.Test.YtkhhdemhlbaboaaAMS
import Derived.Test.YtkhhdemhlbaboaaK8
set_option linter.unusedVariables false
set_option linter.unusedSimpArgs false
set_option maxRecDepth 20000
namespace Go.AM.K
open Go.AM Go.AM.Fn Go.AM.TP
attribute [local congr] ite_cond

set_option maxHeartbeats 2000000 in
theorem best_spec {h : Heap} (kk : Ok h) {k : Nat} (hk4 : k ≤ 4) {t : Tab} {v w r : Value} {row : List Int} (hv : Ints h v t.1) (hw : Ints h w t.2) (fv : Fit v) (fw : Fit w) (ft : Fine k t) (hr : Ints h r row) (hrl : row.length = k) (hrb : ∀ i, i < k → 0 ≤ row.getD i 0 ∧ row.getD i 0 ≤ 100) :
    Call T1 44 [.agg #[v, w], r] h (fun u h' => u = .tuple #[.int .i64 (belowN t row k).1, .int .i64 (belowN t row k).2] ∧ More h h') := by
  refine Call.more kk ?_
  refine Call.of (fn := f44) rfl (by simp [f44]) ?_
  unfold f44
  have x1 : Ext h (h.alloc { cells := [v, w], esz := 0 }) := .alloc _ _
  have k1 : Ok (h.alloc { cells := [v, w], esz := 0 }) := kk.alloc _
  have hbn : h.base ≤ h.next := kk.le
  have gt : (h.alloc { cells := [v, w], esz := 0 }).get h.next = some { cells := [v, w], esz := 0 } := by simp [Heap.alloc]
  have hbase : (h.alloc { cells := [v, w], esz := 0 }).base = h.base := rfl
  have hv1 := hv.ext x1 kk
  have hw1 := hw.ext x1 kk
  have hr1 := hr.ext x1 kk
  have hrlen := hr.len
  rw [hrl] at hrlen
  simp only [↓SP, SQ, SG, SL, ↓reduceIte, undef, iop, isShift, Nat.reduceEqDiff, reduceCtorEq, Nat.reduceAdd, Nat.reduceMul, Nat.reduceSub, Nat.reduceLT, Nat.reduceLeDiff, Int.reduceLT, Int.reduceLE, Int.reduceEq, Int.reduceGT, Int.reduceGE, Int.reduceNeg, Int.reduceToNat, ne_eq, if_true, if_false, List.map_cons, List.map_nil, r44_0, r44_1, r44_2,  List.size_toArray]
  generalize (h.alloc { cells := [v, w], esz := 0 }) = g at *
  rw [← hbase] at hbn
  refine wp_loopK Call.mono (fun q ρ g' => g' = g ∧ ∃ i : Nat, ρ 8 = .int .i64 i ∧ i + q = k ∧ ρ 6 = .int .i64 (bestN t row i).1 ∧ ρ 7 = .int .i64 (bestN t row i).2) ?_ (m := k) ⟨rfl, 0, rfl, by omega, rfl, rfl⟩
  rintro q ρ g' ⟨rfl, i, q8, hq, q6, q7⟩ keep
  have ρ_1 : ρ 1 = r := by rw [keep 1 (of_decide_eq_true rfl)]; first | rfl | assumption
  have ρ_2 : ρ 2 = .pointer (some ⟨h.next, 0, none⟩) := by rw [keep 2 (of_decide_eq_true rfl)]; first | rfl | assumption
  unfold b44_1
  by_cases hi : i < k
  rotate_left
  · have hii : i = k := by omega
    subst hii
    rw [← best_below ft row i (Nat.le_refl _)]
    simp only [↓SP, SQ, SG, SL, ↓reduceIte, undef, iop, isShift, Nat.reduceEqDiff, reduceCtorEq, Nat.reduceAdd, Nat.reduceMul, Nat.reduceSub, Nat.reduceLT, Nat.reduceLeDiff, Int.reduceLT, Int.reduceLE, Int.reduceEq, Int.reduceGT, Int.reduceGE, Int.reduceNeg, Int.reduceToNat, ne_eq, if_true, if_false, List.map_cons, List.map_nil, Nat.le_refl, SM, r44_3, r44_10,  ρ_1, ρ_2, q8, q6, q7, hrlen, Nat.lt_irrefl]
    exact x1
  have hi1 : i < t.1.length := by rw [ft.len1]; exact hi
  have hi2 : i < t.2.length := by rw [ft.len2]; exact hi
  have hi3 : i < row.length := by omega
  obtain ⟨a1, e1, e2⟩ := hv1.row hi1
  obtain ⟨a2, e3, e4⟩ := hw1.row hi2
  obtain ⟨a3, e5, e6⟩ := hr1.row hi3
  have c1 : t.1.getD i 0 = t.1[i] := getD_in hi1 _
  have c2 : t.2.getD i 0 = t.2[i] := getD_in hi2 _
  have c3 : row.getD i 0 = row[i] := getD_in hi3 _
  have hcell := fine_cell ft hi
  have hrc := hrb i hi
  rw [c1, c2] at hcell
  rw [c3] at hrc
  have hnext : bestN t row (i + 1) = if t.1[i] < far ∧ t.1[i] + row[i] < (bestN t row i).1 then (t.1[i] + row[i], t.2[i]) else if t.1[i] < far ∧ t.1[i] + row[i] = (bestN t row i).1 then ((bestN t row i).1, (bestN t row i).2 + t.2[i]) else bestN t row i := by rw [bestN, c1, c2, c3]
  have hbw := below_wt ft (by decide) (by decide) (by decide) hrb i (by omega)
  rw [← best_below ft row i (by omega)] at hbw
  have hws : IntKind.wrap .i64 ((i : Int) + 1) = ((i + 1 : Nat) : Int) := by rw [wrap_in] <;> omega
  have hbb : -1 ≤ (bestN t row i).1 ∧ (bestN t row i).1 ≤ far ∧ 0 ≤ (bestN t row i).2 ∧ (bestN t row i).2 ≤ 1073741824 := by
    rcases hbw with ⟨e, _⟩ | hbw
    · rw [e]; decide
    · have : (i : Int) * 268435456 ≤ 4 * 268435456 := Int.mul_le_mul_of_nonneg_right (by omega) (by decide)
      unfold far; omega
  have hw1' : IntKind.wrap .i64 (t.1[i] + row[i]) = t.1[i] + row[i] := by have := hcell.1; unfold far at this; rw [wrap_in] <;> omega
  have hw2 : IntKind.wrap .i64 ((bestN t row i).2 + t.2[i]) = (bestN t row i).2 + t.2[i] := by rw [wrap_in] <;> omega
  unfold far at hnext
  by_cases d1 : t.1[i] < 1073741824
  rotate_left
  · rw [if_neg (fun h => d1 h.1), if_neg (fun h => d1 h.1)] at hnext
    simp only [↓SP, SQ, SG, SL, ↓reduceIte, undef, iop, isShift, Nat.reduceEqDiff, reduceCtorEq, Nat.reduceAdd, Nat.reduceMul, Nat.reduceSub, Nat.reduceLT, Nat.reduceLeDiff, Int.reduceLT, Int.reduceLE, Int.reduceEq, Int.reduceGT, Int.reduceGE, Int.reduceNeg, Int.reduceToNat, ne_eq, if_true, if_false, List.map_cons, List.map_nil, Nat.le_refl, SM, r44_3, r44_4, r44_5, r44_6, r44_8,  ρ_1, ρ_2, q8, q6, q7, hrlen, hi, gt, hbn, e1, e2, e3, e4, e5, e6, hw1', d1, hws]
    exact ⟨q - 1, by omega, i + 1, rfl, by omega, by rw [hnext], by rw [hnext]⟩
  by_cases d2 : t.1[i] + row[i] < (bestN t row i).1
  · rw [if_pos ⟨d1, d2⟩] at hnext
    simp only [↓SP, SQ, SG, SL, ↓reduceIte, undef, iop, isShift, Nat.reduceEqDiff, reduceCtorEq, Nat.reduceAdd, Nat.reduceMul, Nat.reduceSub, Nat.reduceLT, Nat.reduceLeDiff, Int.reduceLT, Int.reduceLE, Int.reduceEq, Int.reduceGT, Int.reduceGE, Int.reduceNeg, Int.reduceToNat, ne_eq, if_true, if_false, List.map_cons, List.map_nil, Nat.le_refl, SM, r44_3, r44_4, r44_5, r44_6, r44_7,  ρ_1, ρ_2, q8, q6, q7, hrlen, hi, gt, hbn, e1, e2, e3, e4, e5, e6, hw1', d1, d2, hws]
    exact ⟨q - 1, by omega, i + 1, rfl, by omega, by rw [hnext], by rw [hnext]⟩
  rw [if_neg (fun h => d2 h.2)] at hnext
  by_cases d3 : t.1[i] + row[i] = (bestN t row i).1
  · rw [if_pos ⟨d1, d3⟩] at hnext
    rw [d3] at hw1'
    simp only [↓SP, SQ, SG, SL, ↓reduceIte, undef, iop, isShift, Nat.reduceEqDiff, reduceCtorEq, Nat.reduceAdd, Nat.reduceMul, Nat.reduceSub, Nat.reduceLT, Nat.reduceLeDiff, Int.reduceLT, Int.reduceLE, Int.reduceEq, Int.reduceGT, Int.reduceGE, Int.reduceNeg, Int.reduceToNat, ne_eq, if_true, if_false, List.map_cons, List.map_nil, Nat.le_refl, SM, r44_3, r44_4, r44_5, r44_6, r44_8, r44_9,  ρ_1, ρ_2, q8, q6, q7, hrlen, hi, gt, hbn, e1, e2, e3, e4, e5, e6, hw1', d1, d2, d3, Int.lt_irrefl, hw2, hws]
    exact ⟨q - 1, by omega, i + 1, rfl, by omega, by rw [hnext], by rw [hnext]⟩
  · rw [if_neg (fun h => d3 h.2)] at hnext
    simp only [↓SP, SQ, SG, SL, ↓reduceIte, undef, iop, isShift, Nat.reduceEqDiff, reduceCtorEq, Nat.reduceAdd, Nat.reduceMul, Nat.reduceSub, Nat.reduceLT, Nat.reduceLeDiff, Int.reduceLT, Int.reduceLE, Int.reduceEq, Int.reduceGT, Int.reduceGE, Int.reduceNeg, Int.reduceToNat, ne_eq, if_true, if_false, List.map_cons, List.map_nil, Nat.le_refl, SM, r44_3, r44_4, r44_5, r44_6, r44_8,  ρ_1, ρ_2, q8, q6, q7, hrlen, hi, gt, hbn, e1, e2, e3, e4, e5, e6, hw1', d1, d2, d3, hws]
    exact ⟨q - 1, by omega, i + 1, rfl, by omega, by rw [hnext], by rw [hnext]⟩

/-- Two rows that grow side by side. -/
structure Grow (hA g : Heap) (vc vw : Value) (cs ws : List Int) : Prop where
  one : Own hA g vc cs.length 1 (cs.map (.int .i64))
  two : Own hA g vw ws.length 1 (ws.map (.int .i64))
  sep : ∀ i, GBlk vc i → InBlk vw i → False
  sep' : ∀ i, GBlk vw i → InBlk vc i → False

theorem Own.over {h0 g g' : Heap} (k : Ok g) {v : Value} {n esz : Nat} {cs : List Value} (hz : esz ≠ 0) (r : Own h0 g v n esz cs) {P : Nat → Prop} (ov : Over g g' P) (hp : ∀ i, InBlk v i → ¬ P i) (hn : n ≠ 0 ∨ v = .slice none 0 0) : Own h0 g' v n esz cs := by
  refine ⟨r.small, r.size, r.ones, ?_⟩
  rcases r.at_ with hv | ⟨b, e, hv, hg, h1, h2⟩
  · exact .inl hv
  · rcases hn with hn | rfl
    · have hb : InBlk v b := by rcases hv with ⟨rfl, _⟩ | ⟨rfl, _⟩ <;> exact ⟨_, _, _, _, rfl, hn⟩
      exact .inr ⟨b, e, hv, by rw [ov.get b (k.lt hg) (hp b hb)]; exact hg, h1, by rw [ov.base]; exact h2⟩
    · rcases hv with ⟨hv, _⟩ | ⟨hv, _⟩ <;> simp at hv

theorem Grow.step {hA g g' : Heap} {vc vw : Value} {cs ws : List Int} (x : Ext g g') (k : Ok g) (t : Grow hA g vc vw cs ws) : Grow hA g' vc vw cs ws := ⟨t.one.step x k, t.two.step x k, t.sep, t.sep'⟩

theorem Grow.push {hA g : Heap} {vc vw : Value} {cs ws : List Int} (k : Ok g) (hx : hA.next ≤ g.next) (t : Grow hA g vc vw cs ws) (hl : ws.length = cs.length) (hn0 : cs.length ≠ 0 ∨ (vc = .slice none 0 0 ∧ vw = .slice none 0 0)) (hn : cs.length ≤ 1000) (x y : Int) :
    ∃ vc' vw' g1 g2, appendA (g.alloc { cells := [.int .i64 x], esz := 0 }) 1 8 vc (.slice (some ⟨g.next, 0, none⟩) 1 1) = some (vc', g1) ∧ appendA (g1.alloc { cells := [.int .i64 y], esz := 0 }) 1 8 vw (.slice (some ⟨g1.next, 0, none⟩) 1 1) = some (vw', g2) ∧
      Grow hA g2 vc' vw' (cs ++ [x]) (ws ++ [y]) ∧ Ok g2 ∧ Fit vc' ∧ Fit vw' ∧ g1.base = g.base ∧ g2.base = g.base ∧ g.next ≤ g2.next ∧ ∀ i, i < hA.next → g1.get i = g.get i ∧ g2.get i = g.get i := by
  obtain ⟨vc', g1, e1, o1, k1, ov1⟩ := Own.push2 k t.one (bytes := 8) (news := [.int .i64 x]) rfl rfl (by omega) (by omega) (by omega)
  have t1 : Own hA g1 vw ws.length 1 (ws.map (.int .i64)) := Own.over k (by omega) t.two ov1 (fun i hi hp => t.sep i hp hi) (by rcases hn0 with h | h; exact .inl (by omega); exact .inr h.2)
  obtain ⟨vw', g2, e2, o2, k2, ov2⟩ := Own.push2 k1 t1 (bytes := 8) (news := [.int .i64 y]) rfl rfl (by omega) (by omega) (by omega)
  have hc' : ∀ i, InBlk vc' i → g.next ≤ i ∧ i < g1.next := fun i hi => ⟨o1.blk hi, o1.reads.blk k1 (by omega) hi⟩
  have hvw : ∀ i, GBlk vw i → i < g.next := fun i hi => t.two.gblk_lt k hi
  have o1' : Own g g2 vc' (cs.length + 1) 1 (cs.map (Value.int .i64) ++ [Value.int .i64 x]) := Own.over k1 (by omega) o1 ov2 (fun i hi hp => by have := hc' i hi; have := hvw i hp; omega) (.inl (by omega))
  have n1 := ov1.next
  have n2 := ov2.next
  refine ⟨vc', vw', g1, g2, e1, e2, ⟨?_, ?_, ?_, ?_⟩, k2, o1.fit, o2.fit, ov1.base, ov2.base.trans ov1.base, by omega, fun i hi => ?_⟩
  · have := o1'.elder hx
    simpa using this
  · have := o2.elder (Nat.le_trans hx n1)
    simpa using this
  · intro i hg hi
    have := o2.blk hi
    have := o1.gblk_lt k1 hg
    omega
  · intro i hg hi
    have := o2.gblk hg
    have := (hc' i hi).2
    omega
  · have h1 := ov1.get i (by omega) (fun hp => by have := t.one.gblk hp; omega)
    exact ⟨h1, by rw [ov2.get i (by omega) (fun hp => by have := t.two.gblk hp; omega), h1]⟩

theorem Grow.putz {hA g : Heap} {vc vw : Value} {cs ws : List Int} (t : Grow hA g vc vw cs ws) {z : Nat} (hz : z < hA.next) (o : Blk) : Grow hA (g.put z o) vc vw cs ws := by
  have key : ∀ {v : Value} {n : Nat} {l : List Value}, Own hA g v n 1 l → Own hA (g.put z o) v n 1 l := by
    intro v n l r
    refine ⟨r.small, r.size, r.ones, ?_⟩
    rcases r.at_ with hv | ⟨b, e, hv, hg, h1, h2⟩
    · exact .inl hv
    · exact .inr ⟨b, e, hv, by simp only [Heap.put]; rw [if_neg (by omega)]; exact hg, h1, h2⟩
  exact ⟨key t.one, key t.two, t.sep, t.sep'⟩

theorem Grow.reads {hA g : Heap} {vc vw : Value} {cs ws : List Int} (t : Grow hA g vc vw cs ws) : Ints g vc cs ∧ Ints g vw ws ∧ Fit vc ∧ Fit vw := ⟨t.one.ints.1, t.two.ints.1, t.one.fit, t.two.fit⟩

set_option maxHeartbeats 4000000 in
theorem nodes_spec {h : Heap} (kk : Ok h) {n k : Nat} {j c l : Value} {js : List (Int × Int)} {costs : List (List Int)} {leaves : List Int} (hj : Pairs h j js) (hcm : Mat h c costs) (hli : Ints h l leaves) (hn : n ≤ 8) (ht : treeB n js = true) (hc : costsB costs = true) (hk : costs.length = k) (hl : statesB n k leaves = true) :
    Call T1 22 [.int .i64 n, j, c, l] h (fun v h' => OL eTwo h h' v (tabs k costs leaves js) ∧ More h h') := by
  refine Call.more kk ?_
  refine Call.of (fn := f22) rfl (by simp [f22]) ?_
  unfold f22
  have hk4 : 1 ≤ k ∧ k ≤ 4 := by simp only [costsB, Bool.and_eq_true, decide_eq_true_eq] at hc; omega
  have hst := hl
  simp only [statesB, Bool.and_eq_true, decide_eq_true_eq, List.all_eq_true] at hst
  have hll : leaves.length = n := by omega
  have hjl : js.length ≤ 7 := by simp only [treeB, Bool.and_eq_true, decide_eq_true_eq] at ht; omega
  have hclen := hcm.len
  have hjlen := hj.len
  rw [hk] at hclen
  have x0 : Ext h (h.alloc { cells := [], esz := 0 }) := .alloc _ _
  have k0 : Ok (h.alloc { cells := [], esz := 0 }) := kk.alloc _
  simp only [↓SP, SQ, SG, SL, ↓reduceIte, undef, iop, isShift, Nat.reduceEqDiff, reduceCtorEq, Nat.reduceAdd, Nat.reduceMul, Nat.reduceSub, Nat.reduceLT, Nat.reduceLeDiff, Int.reduceLT, Int.reduceLE, Int.reduceEq, Int.reduceGT, Int.reduceGE, Int.reduceNeg, Int.reduceToNat, ne_eq, if_true, if_false, List.map_cons, List.map_nil, r22_0, r22_1, r22_2,  made_zero]
  have ol0 : OL eTwo (h.alloc { cells := [], esz := 0 }) (h.alloc { cells := [], esz := 0 }) (.slice (some ⟨h.next, 0, none⟩) 0 0) [] := OL.empty _ _ _ _
  generalize (h.alloc { cells := [], esz := 0 }) = g0 at *
  refine wp_loopK Call.mono (fun q ρ g => Ext g0 g ∧ Ok g ∧ ∃ i : Nat, ρ 10 = .int .i64 i ∧ i + q = n ∧ OL eTwo g0 g (ρ 9) ((leaves.take i).map (leafT k))) ?_ (m := n) ⟨.refl _, k0, 0, rfl, by omega, ol0⟩
  rintro q ρ g ⟨xg, kg, i, q10, hq, ol⟩ keep
  have ρ_0 : ρ 0 = .int .i64 n := by rw [keep 0 (of_decide_eq_true rfl)]; first | rfl | assumption
  have ρ_1 : ρ 1 = j := by rw [keep 1 (of_decide_eq_true rfl)]; first | rfl | assumption
  have ρ_2 : ρ 2 = c := by rw [keep 2 (of_decide_eq_true rfl)]; first | rfl | assumption
  have ρ_3 : ρ 3 = l := by rw [keep 3 (of_decide_eq_true rfl)]; first | rfl | assumption
  unfold b22_2
  by_cases hi : i < n
  · have hi' : i < leaves.length := by omega
    obtain ⟨a1, e1, e2⟩ := (hli.ext (x0.trans xg) kk).row hi'
    have hwi : IntKind.wrap .i64 ((i : Int) + 1) = ((i + 1 : Nat) : Int) := by rw [wrap_in] <;> omega
    have hgn := kg.le
    obtain ⟨y3, k3, z3⟩ := ext_put_new (.refl g) kg (o := { cells := [.slice none 0 0, .slice none 0 0], esz := 0 }) (o' := { cells := [.slice none 0 0, .slice none 0 0], esz := 0 })
    have hz3 : g.next < ((g.alloc { cells := [.slice none 0 0, .slice none 0 0], esz := 0 }).put g.next { cells := [.slice none 0 0, .slice none 0 0], esz := 0 }).next := by simp [Heap.alloc, Heap.put]
    simp only [↓SP, SQ, SG, SL, ↓reduceIte, undef, iop, isShift, Nat.reduceEqDiff, reduceCtorEq, Nat.reduceAdd, Nat.reduceMul, Nat.reduceSub, Nat.reduceLT, Nat.reduceLeDiff, Int.reduceLT, Int.reduceLE, Int.reduceEq, Int.reduceGT, Int.reduceGE, Int.reduceNeg, Int.reduceToNat, ne_eq, if_true, if_false, List.map_cons, List.map_nil, Nat.le_refl, SM, r22_3, r22_5, r22_6,  ρ_0, ρ_1, ρ_2, ρ_3, q10, hi, hgn, List.size_toArray]
    generalize ((g.alloc { cells := [.slice none 0 0, .slice none 0 0], esz := 0 }).put g.next { cells := [.slice none 0 0, .slice none 0 0], esz := 0 }) = g3 at *
    have ol3 := ol.step y3 kg
    -- one state after the other
    refine wp_loopK Call.mono (fun q' ρ' g' => Ext g g' ∧ g3.next ≤ g'.next ∧ Ok g' ∧ ∃ (s : Nat) (vc vw : Value), ρ' 12 = .int .i64 s ∧ s + q' = k ∧ g'.get g.next = some { cells := [vc, vw], esz := 0 } ∧ Grow g3 g' vc vw ((leafT k leaves[i]).1.take s) ((leafT k leaves[i]).2.take s) ∧ (s = 0 → vc = .slice none 0 0 ∧ vw = .slice none 0 0)) ?_ (m := k)
      ⟨y3, Nat.le_refl _, k3, 0, _, _, rfl, by omega, z3, ⟨by simpa using Own.nil g3 g3 1, by simpa using Own.nil g3 g3 1, fun i ⟨n, e⟩ => by simp at e, fun i ⟨n, e⟩ => by simp at e⟩, fun _ => ⟨rfl, rfl⟩⟩
    rintro q' ρ' g' ⟨xg', hnx, kg', s, vc, vw, r12, hq', gz, gr, hs0⟩ keep
    have ρ'_0 : ρ' 0 = .int .i64 n := by rw [keep 0 (of_decide_eq_true rfl)]; first | rfl | assumption
    have ρ'_1 : ρ' 1 = j := by rw [keep 1 (of_decide_eq_true rfl)]; first | rfl | assumption
    have ρ'_2 : ρ' 2 = c := by rw [keep 2 (of_decide_eq_true rfl)]; first | rfl | assumption
    have ρ'_3 : ρ' 3 = l := by rw [keep 3 (of_decide_eq_true rfl)]; first | rfl | assumption
    have ρ'_10 : ρ' 10 = .int .i64 i := by rw [keep 10 (of_decide_eq_true rfl)]; first | rfl | assumption
    have ρ'_11 : ρ' 11 = .pointer (some ⟨g.next, 0, none⟩) := by rw [keep 11 (of_decide_eq_true rfl)]; first | rfl | assumption
    have ρ'_9 : ρ' 9 = ρ 9 := by rw [keep 9 (of_decide_eq_true rfl)]; rfl
    unfold b22_1
    have hbz : g'.base ≤ g.next := by rw [xg'.base]; exact hgn
    by_cases hs : s < k
    · have hws : IntKind.wrap .i64 ((s : Int) + 1) = ((s + 1 : Nat) : Int) := by rw [wrap_in] <;> omega
      have hL1 : s < (leafT k leaves[i]).1.length := by simpa [leafT] using hs
      have hL2 : s < (leafT k leaves[i]).2.length := by simpa [leafT] using hs
      have ht1 : (leafT k leaves[i]).1.take (s + 1) = (leafT k leaves[i]).1.take s ++ [(leafT k leaves[i]).1[s]] := List.take_succ_eq_append_getElem hL1
      have ht2 : (leafT k leaves[i]).2.take (s + 1) = (leafT k leaves[i]).2.take s ++ [(leafT k leaves[i]).2[s]] := List.take_succ_eq_append_getElem hL2
      have hv1 : (leafT k leaves[i]).1[s] = if (s : Int) = leaves[i] then 0 else far := by simp [leafT]
      have hv2 : (leafT k leaves[i]).2[s] = if (s : Int) = leaves[i] then 1 else 0 := by simp [leafT]
      obtain ⟨a2, e3, e4⟩ := (hli.ext (x0.trans (xg.trans xg')) kk).row hi'
      obtain ⟨vc', vw', g4, g5, p1, p2, gr5, k5, fc, fw, b4, b5, n5, old⟩ := gr.push kg' hnx (by simp [leafT]) (by
        by_cases h0 : s = 0
        · exact .inr (hs0 h0)
        · exact .inl (by simp [leafT]; omega)) (by simp [leafT]; omega) (leafT k leaves[i]).1[s] (leafT k leaves[i]).2[s]
      rw [← ht1, ← ht2] at gr5
      have ho := old g.next hz3
      have lt' : g.next < g'.next := by omega
      have kpz : ∀ o, rdA (g'.alloc o) (.pointer (some ⟨g.next, 1, none⟩)) 1 = rdA g4 (.pointer (some ⟨g.next, 1, none⟩)) 1 := fun o => by
        refine (rdA_congr (h := g'.alloc o) b4 ?_).symm
        rw [ho.1, Heap.get_alloc, if_neg (by omega)]
      have gz5 : g5.get g.next = some { cells := [vc, vw], esz := 0 } := by rw [ho.2]; exact gz
      have hbz5 : g5.base ≤ g.next := by rw [b5]; exact hbz
      have lt5 : g.next < g5.next := by omega
      have hE : Ext g ((g5.put g.next { cells := [vc', vw], esz := 0 }).put g.next { cells := [vc', vw'], esz := 0 }) := by
        refine ⟨?_, ?_, fun y hy => ?_⟩
        · show g5.base = g.base; rw [b5, xg'.base]
        · show g.next ≤ g5.next; omega
        · have e : ((g5.put g.next { cells := [vc', vw], esz := 0 }).put g.next { cells := [vc', vw'], esz := 0 }).get y = g5.get y := by
            have hne : ¬ y = g.next := by omega
            simp [Heap.put, hne]
          rw [e, (old y (by omega)).2, xg'.get y hy]
      have hO : Ok ((g5.put g.next { cells := [vc', vw], esz := 0 }).put g.next { cells := [vc', vw'], esz := 0 }) := (k5.put lt5 _).put lt5 _
      have hG := (gr5.putz hz3 { cells := [vc', vw], esz := 0 }).putz hz3 { cells := [vc', vw'], esz := 0 }
      have fc1 := fc.cell
      have fw1 := fw.cell
      by_cases he : (s : Int) = leaves[i]
      · rw [if_pos he] at hv1 hv2
        rw [hv1] at p1
        rw [hv2] at p2
        rw [he] at hws
        have hs2 : leaves[i] < (k : Int) := by omega
        simp only [↓SP, SQ, SG, SL, ↓reduceIte, undef, iop, isShift, Nat.reduceEqDiff, reduceCtorEq, Nat.reduceAdd, Nat.reduceMul, Nat.reduceSub, Nat.reduceLT, Nat.reduceLeDiff, Int.reduceLT, Int.reduceLE, Int.reduceEq, Int.reduceGT, Int.reduceGE, Int.reduceNeg, Int.reduceToNat, ne_eq, if_true, if_false, List.map_cons, List.map_nil, Nat.le_refl, SM, r22_7, r22_8, r22_9, r22_10,  ρ'_0, ρ'_1, ρ'_2, ρ'_3, ρ'_10, ρ'_11, r12, hclen, hs, hs2, e3, e4, he, gz, hbz, p1, p2, kpz, gz5, hbz5, fc1, fw1, hws]
        exact ⟨q' - 1, by omega, hE, by first | omega | (show g3.next ≤ g5.next; omega), hO, s + 1, vc', vw', rfl, by omega, by first | rfl | simp [Heap.put], hG, fun h => by omega⟩
      · rw [if_neg he] at hv1 hv2
        rw [hv1] at p1
        rw [hv2] at p2
        unfold far at p1
        simp only [↓SP, SQ, SG, SL, ↓reduceIte, undef, iop, isShift, Nat.reduceEqDiff, reduceCtorEq, Nat.reduceAdd, Nat.reduceMul, Nat.reduceSub, Nat.reduceLT, Nat.reduceLeDiff, Int.reduceLT, Int.reduceLE, Int.reduceEq, Int.reduceGT, Int.reduceGE, Int.reduceNeg, Int.reduceToNat, ne_eq, if_true, if_false, List.map_cons, List.map_nil, Nat.le_refl, SM, r22_7, r22_8, r22_9, r22_11,  ρ'_0, ρ'_1, ρ'_2, ρ'_3, ρ'_10, ρ'_11, r12, hclen, hs, e3, e4, he, gz, hbz, p1, p2, kpz, gz5, hbz5, fc1, fw1, hws]
        exact ⟨q' - 1, by omega, hE, by first | omega | (show g3.next ≤ g5.next; omega), hO, s + 1, vc', vw', rfl, by omega, by first | rfl | simp [Heap.put], hG, fun h => by omega⟩
    · -- the table is whole
      have hsk : s = k := by omega
      subst hsk
      have hl1 : (leafT s leaves[i]).1.length = s := by simp [leafT]
      have hl2 : (leafT s leaves[i]).2.length = s := by simp [leafT]
      rw [List.take_of_length_le (by omega), List.take_of_length_le (by omega)] at gr
      have R := gr.reads
      have fc1 := R.2.2.1.cell
      have fw1 := R.2.2.2.cell
      obtain ⟨v', g6, hap, ol', ext', kg6, _⟩ := OL.push kg' (Nat.le_trans xg.next xg'.next) (ol.step xg' kg) (eTwo_mk R.1 R.2.2.1 R.2.1 R.2.2.2) (fun y hy z' hz' hp => by
        have h1 := ol.gblk_lt kg hp
        have h2 : g3.next ≤ z' := by
          simp only [List.mem_cons, List.not_mem_nil, or_false] at hy
          rcases hy with rfl | rfl
          · exact gr.one.blk hz'
          · exact gr.two.blk hz'
        omega) (bytes := 48) (by simp; omega) (by simp; omega)
      simp only [rowOf_eq] at hap
      simp only [↓SP, SQ, SG, SL, ↓reduceIte, undef, iop, isShift, Nat.reduceEqDiff, reduceCtorEq, Nat.reduceAdd, Nat.reduceMul, Nat.reduceSub, Nat.reduceLT, Nat.reduceLeDiff, Int.reduceLT, Int.reduceLE, Int.reduceEq, Int.reduceGT, Int.reduceGE, Int.reduceNeg, Int.reduceToNat, ne_eq, if_true, if_false, List.map_cons, List.map_nil, Nat.le_refl, SM, r22_4, r22_7, r22_12,  ρ'_0, ρ'_1, ρ'_2, ρ'_3, ρ'_9, ρ'_10, ρ'_11, r12, hclen, Nat.lt_irrefl, gz, hbz, hap, hwi, List.size_toArray]
      refine ⟨q - 1, by omega, ext' g0 (xg.trans xg') (Nat.le_refl _), kg6, i + 1, rfl, by omega, ?_⟩
      rw [List.take_succ_eq_append_getElem hi', List.map_append]
      exact ol'
  -- the joins
  simp only [↓SP, SQ, SG, SL, ↓reduceIte, undef, iop, isShift, Nat.reduceEqDiff, reduceCtorEq, Nat.reduceAdd, Nat.reduceMul, Nat.reduceSub, Nat.reduceLT, Nat.reduceLeDiff, Int.reduceLT, Int.reduceLE, Int.reduceEq, Int.reduceGT, Int.reduceGE, Int.reduceNeg, Int.reduceToNat, ne_eq, if_true, if_false, List.map_cons, List.map_nil, Nat.le_refl, SM, r22_3, r22_13,  ρ_0, ρ_1, ρ_2, ρ_3, q10, hi]
  have hii : leaves.take i = leaves := List.take_of_length_le (by omega)
  rw [hii] at ol
  refine wp_loopK Call.mono (fun q ρ g' => Ext g0 g' ∧ Ok g' ∧ ∃ (i : Nat) (acc : List Tab), ρ 13 = .int .i64 i ∧ i + q = js.length ∧ OL eTwo g0 g' (ρ 9) acc ∧ TP.At n k costs acc (js.drop i) ∧ nodesT k costs acc (js.drop i) = tabs k costs leaves js ∧ acc.length ≤ 8 + i) ?_ (m := js.length)
    ⟨xg, kg, 0, _, rfl, by omega, ol, start_at hl ht, rfl, by simp; omega⟩
  clear hq hi hii ol
  rintro q2 ρ2 g2 ⟨xg2, kg2, i2, acc, r13, hq2, ol2, A, hnt, hacc⟩ keep
  have ρ2_0 : ρ2 0 = .int .i64 n := by rw [keep 0 (of_decide_eq_true rfl)]; first | rfl | assumption
  have ρ2_1 : ρ2 1 = j := by rw [keep 1 (of_decide_eq_true rfl)]; first | rfl | assumption
  have ρ2_2 : ρ2 2 = c := by rw [keep 2 (of_decide_eq_true rfl)]; first | rfl | assumption
  have ρ2_3 : ρ2 3 = l := by rw [keep 3 (of_decide_eq_true rfl)]; first | rfl | assumption
  unfold b22_4
  by_cases hi2 : i2 < js.length
  rotate_left
  · simp only [↓SP, SQ, SG, SL, ↓reduceIte, undef, iop, isShift, Nat.reduceEqDiff, reduceCtorEq, Nat.reduceAdd, Nat.reduceMul, Nat.reduceSub, Nat.reduceLT, Nat.reduceLeDiff, Int.reduceLT, Int.reduceLE, Int.reduceEq, Int.reduceGT, Int.reduceGE, Int.reduceNeg, Int.reduceToNat, ne_eq, if_true, if_false, List.map_cons, List.map_nil, Nat.le_refl, SM, r22_14, r22_24,  ρ2_0, ρ2_1, ρ2_2, ρ2_3, r13, hjlen, hi2]
    rw [List.drop_of_length_le (by omega)] at hnt
    simp only [nodesT] at hnt
    rw [← hnt]
    exact ⟨ol2.elder x0.next, x0.trans xg2⟩
  have hj2 := hj.ext (x0.trans xg2) kk
  obtain ⟨a1, e1, _, e2⟩ := Reads.elemN (enc := pairCells) (sz := 2) (fun _ => rfl) hj2 hi2
  rw [List.drop_eq_getElem_cons hi2] at A hnt
  generalize hab : js[i2] = ab at *
  obtain ⟨a, bb⟩ := ab
  obtain ⟨z1, z2, z3, z4, fa, fb, A'⟩ := A.step hn hc hk
  simp only [nodesT] at hnt
  have hwi : IntKind.wrap .i64 ((i2 : Int) + 1) = ((i2 + 1 : Nat) : Int) := by rw [wrap_in] <;> omega
  have hgn := kg2.le
  obtain ⟨y3, k3, gz3⟩ := ext_put_new (.refl g2) kg2 (o := { cells := [.slice none 0 0, .slice none 0 0], esz := 0 }) (o' := { cells := [.slice none 0 0, .slice none 0 0], esz := 0 })
  have hz3 : g2.next < ((g2.alloc { cells := [.slice none 0 0, .slice none 0 0], esz := 0 }).put g2.next { cells := [.slice none 0 0, .slice none 0 0], esz := 0 }).next := by simp [Heap.alloc, Heap.put]
  simp only [↓SP, SQ, SG, SL, ↓reduceIte, undef, iop, isShift, Nat.reduceEqDiff, reduceCtorEq, Nat.reduceAdd, Nat.reduceMul, Nat.reduceSub, Nat.reduceLT, Nat.reduceLeDiff, Int.reduceLT, Int.reduceLE, Int.reduceEq, Int.reduceGT, Int.reduceGE, Int.reduceNeg, Int.reduceToNat, ne_eq, if_true, if_false, List.map_cons, List.map_nil, Nat.le_refl, SM, r22_14, r22_16, r22_17,  ρ2_0, ρ2_1, ρ2_2, ρ2_3, r13, hi2, hjlen, hgn, List.size_toArray]
  generalize ((g2.alloc { cells := [.slice none 0 0, .slice none 0 0], esz := 0 }).put g2.next { cells := [.slice none 0 0, .slice none 0 0], esz := 0 }) = g3 at *
  generalize hJ : joinT k costs (acc.getD a.toNat ([], [])) (acc.getD bb.toNat ([], [])) = J at *
  have hJl : J.1.length = k ∧ J.2.length = k := by rw [← hJ]; simp [joinT]
  refine wp_loopK Call.mono (fun q' ρ' g' => Ext g2 g' ∧ g3.next ≤ g'.next ∧ Ok g' ∧ ∃ (s : Nat) (vc vw : Value), ρ' 15 = .int .i64 s ∧ s + q' = k ∧ g'.get g2.next = some { cells := [vc, vw], esz := 0 } ∧ Grow g3 g' vc vw (J.1.take s) (J.2.take s) ∧ (s = 0 → vc = .slice none 0 0 ∧ vw = .slice none 0 0)) ?_ (m := k)
    ⟨y3, Nat.le_refl _, k3, 0, _, _, rfl, by omega, gz3, ⟨by simpa using Own.nil g3 g3 1, by simpa using Own.nil g3 g3 1, fun i ⟨n, e⟩ => by simp at e, fun i ⟨n, e⟩ => by simp at e⟩, fun _ => ⟨rfl, rfl⟩⟩
  rintro q' ρ' g' ⟨xg', hnx, kg', s, vc, vw, r15, hq', gz, gr, hs0⟩ keep
  have ρ'_0 : ρ' 0 = .int .i64 n := by rw [keep 0 (of_decide_eq_true rfl)]; first | rfl | assumption
  have ρ'_1 : ρ' 1 = j := by rw [keep 1 (of_decide_eq_true rfl)]; first | rfl | assumption
  have ρ'_2 : ρ' 2 = c := by rw [keep 2 (of_decide_eq_true rfl)]; first | rfl | assumption
  have ρ'_3 : ρ' 3 = l := by rw [keep 3 (of_decide_eq_true rfl)]; first | rfl | assumption
  have ρ'_13 : ρ' 13 = .int .i64 i2 := by rw [keep 13 (of_decide_eq_true rfl)]; first | rfl | assumption
  have ρ'_14 : ρ' 14 = .pointer (some ⟨g2.next, 0, none⟩) := by rw [keep 14 (of_decide_eq_true rfl)]; first | rfl | assumption
  have ρ'_9 : ρ' 9 = ρ2 9 := by rw [keep 9 (of_decide_eq_true rfl)]; rfl
  unfold b22_3
  have hbz : g'.base ≤ g2.next := by rw [xg'.base]; exact hgn
  by_cases hs : s < k
  rotate_left
  · have hsk : s = k := by omega
    subst hsk
    rw [List.take_of_length_le (by omega), List.take_of_length_le (by omega)] at gr
    have R := gr.reads
    have fc1 := R.2.2.1.cell
    have fw1 := R.2.2.2.cell
    obtain ⟨v', g6, hap, ol', ext', kg6, _⟩ := OL.push kg' (Nat.le_trans xg2.next xg'.next) (ol2.step xg' kg2) (eTwo_mk R.1 R.2.2.1 R.2.1 R.2.2.2) (fun y hy z' hz' hp => by
      have h1 := ol2.gblk_lt kg2 hp
      have h2 : g3.next ≤ z' := by
        simp only [List.mem_cons, List.not_mem_nil, or_false] at hy
        rcases hy with rfl | rfl
        · exact gr.one.blk hz'
        · exact gr.two.blk hz'
      omega) (bytes := 48) (by omega) (by omega)
    simp only [rowOf_eq] at hap
    simp only [↓SP, SQ, SG, SL, ↓reduceIte, undef, iop, isShift, Nat.reduceEqDiff, reduceCtorEq, Nat.reduceAdd, Nat.reduceMul, Nat.reduceSub, Nat.reduceLT, Nat.reduceLeDiff, Int.reduceLT, Int.reduceLE, Int.reduceEq, Int.reduceGT, Int.reduceGE, Int.reduceNeg, Int.reduceToNat, ne_eq, if_true, if_false, List.map_cons, List.map_nil, Nat.le_refl, SM, r22_15, r22_18, r22_23,  ρ'_0, ρ'_1, ρ'_2, ρ'_3, ρ'_9, ρ'_13, ρ'_14, r15, hclen, hk, Nat.lt_irrefl, gz, hbz, hap, hwi, List.size_toArray]
    exact ⟨q2 - 1, by omega, ext' g0 (xg2.trans xg') (Nat.le_refl _), kg6, i2 + 1, acc ++ [J], rfl, by omega, ol', A', hnt, by simp; omega⟩
  have hws : IntKind.wrap .i64 ((s : Int) + 1) = ((s + 1 : Nat) : Int) := by rw [wrap_in] <;> omega
  obtain ⟨a0, rfl⟩ : ∃ a0 : Nat, a = a0 := ⟨a.toNat, by omega⟩
  obtain ⟨b0, rfl⟩ : ∃ b0 : Nat, bb = b0 := ⟨bb.toNat, by omega⟩
  simp only [Int.toNat_natCast] at fa fb hJ
  have ha0 : a0 < acc.length := by omega
  have hb0 : b0 < acc.length := by omega
  rw [getD_in ha0] at fa hJ
  rw [getD_in hb0] at fb hJ
  have hsc : s < costs.length := by omega
  have hrow := costs_row hc hsc
  rw [hk] at hrow
  have hcs : costs.getD s [] = costs[s] := getD_in hsc _
  have hj3 := hj.ext ((x0.trans xg2).trans xg') kk
  obtain ⟨a3, i1, _, i2r⟩ := Reads.elemN (enc := pairCells) (sz := 2) (fun _ => rfl) hj3 hi2
  obtain ⟨jb, jo, rfl⟩ := iaddr_ptr i1
  rw [hab] at i2r
  have l1 := rd_field i2r (j := 0) (by omega)
  simp only [pairCells, List.getD_cons_zero, List.getD_cons_succ, Nat.add_zero] at l1
  obtain ⟨pb1, po1, u1, o1, _, q1, v1, w1, rfl, ⟨n1, n2, _, _⟩, n3, n4, _, _⟩ := ((ol2.step xg' kg2).reads).elem ha0
  have hcm3 := hcm.ext ((x0.trans xg2).trans xg') kk
  obtain ⟨c1, u3, c2, c3, c4, _⟩ := hcm3.row hsc
  simp only [↓SP, SQ, SG, SL, ↓reduceIte, undef, iop, isShift, Nat.reduceEqDiff, reduceCtorEq, Nat.reduceAdd, Nat.reduceMul, Nat.reduceSub, Nat.reduceLT, Nat.reduceLeDiff, Int.reduceLT, Int.reduceLE, Int.reduceEq, Int.reduceGT, Int.reduceGE, Int.reduceNeg, Int.reduceToNat, ne_eq, if_true, if_false, List.map_cons, List.map_nil, Nat.le_refl, SM, r22_18, r22_20,  ρ'_0, ρ'_1, ρ'_2, ρ'_3, ρ'_9, ρ'_13, ρ'_14, r15, hclen, hs, i1, l1, o1, q1, c2, c3]
  refine (best_spec kg' hk4.2 n1 n3 n2 n4 fa c4 (by rw [← hcs]; exact hrow.1) (by rw [← hcs]; exact hrow.2)).imp ?_
  rintro v g4 ⟨rfl, m4⟩
  rw [← hcs]
  have hj4 := hj3.ext m4.1 kg'
  obtain ⟨a4, i3, _, i4r⟩ := Reads.elemN (enc := pairCells) (sz := 2) (fun _ => rfl) hj4 hi2
  rw [i1, Option.some.injEq] at i3
  subst i3
  rw [hab] at i4r
  have l2 := rd_field i4r (j := 1) (by omega)
  simp only [pairCells, List.getD_cons_zero, List.getD_cons_succ] at l2
  obtain ⟨pb2, po2, u4, o2, _, q4, v2, w2, rfl, ⟨n5, n6, _, _⟩, n7, n8, _, _⟩ := (((ol2.step xg' kg2).reads).ext m4.1 kg').elem hb0
  obtain ⟨c5, u5, c6, c7, c8, _⟩ := (hcm3.ext m4.1 kg').row hsc
  simp only [↓SP, SQ, SG, SL, ↓reduceIte, undef, iop, isShift, Nat.reduceEqDiff, reduceCtorEq, Nat.reduceAdd, Nat.reduceMul, Nat.reduceSub, Nat.reduceLT, Nat.reduceLeDiff, Int.reduceLT, Int.reduceLE, Int.reduceEq, Int.reduceGT, Int.reduceGE, Int.reduceNeg, Int.reduceToNat, ne_eq, if_true, if_false, List.map_cons, List.map_nil, Nat.le_refl, SM, r22_21,  ρ'_0, ρ'_1, ρ'_2, ρ'_3, ρ'_9, ρ'_13, ρ'_14, r15, i1, l2, o2, q4, c6, c7, List.getElem?_toArray]
  refine (best_spec m4.2 hk4.2 n5 n7 n6 n8 fb c8 (by rw [← hcs]; exact hrow.1) (by rw [← hcs]; exact hrow.2)).imp ?_
  rintro v g5 ⟨rfl, m5⟩
  rw [← hcs]
  have x45 := m4.1.trans m5.1
  have B1 := below_all fa (by decide) (by decide) (by decide) hrow.2
  have B2 := below_all fb (by decide) (by decide) (by decide) hrow.2
  have hJ1 : J.1.getD s 0 = (belowN acc[a0] (costs.getD s []) k).1 + (belowN acc[b0] (costs.getD s []) k).1 := by rw [← hJ]; simp only [joinT, getD_range_map _ _ _ _ hs]
  have hJ2 : J.2.getD s 0 = (belowN acc[a0] (costs.getD s []) k).2 * (belowN acc[b0] (costs.getD s []) k).2 := by rw [← hJ]; simp only [joinT, getD_range_map _ _ _ _ hs]
  generalize belowN acc[a0] (costs.getD s []) k = r1 at *
  generalize belowN acc[b0] (costs.getD s []) k = r2 at *
  have hkw : (k : Int) * 268435456 ≤ 4 * 268435456 := Int.mul_le_mul_of_nonneg_right (by omega) (by decide)
  have hmul : 0 ≤ r1.2 * r2.2 ∧ r1.2 * r2.2 ≤ 1073741824 * 1073741824 := ⟨Int.mul_nonneg (by omega) (by omega), Int.mul_le_mul (by omega) (by omega) (by omega) (by decide)⟩
  have hs1 : s < J.1.length := by omega
  have hs2 : s < J.2.length := by omega
  rw [getD_in hs1] at hJ1
  rw [getD_in hs2] at hJ2
  have w1' : IntKind.wrap .i64 (r1.1 + r2.1) = J.1[s] := by rw [hJ1, wrap_in] <;> omega
  have w2' : IntKind.wrap .i64 (r1.2 * r2.2) = J.2[s] := by rw [hJ2, wrap_in] <;> omega
  have ht1 : J.1.take (s + 1) = J.1.take s ++ [J.1[s]] := List.take_succ_eq_append_getElem hs1
  have ht2 : J.2.take (s + 1) = J.2.take s ++ [J.2[s]] := List.take_succ_eq_append_getElem hs2
  have gz5 : g5.get g2.next = some { cells := [vc, vw], esz := 0 } := by rw [x45.get _ (by omega)]; exact gz
  have hbz5 : g5.base ≤ g2.next := by rw [x45.base]; exact hbz
  have hx5 := x45.next
  obtain ⟨vc', vw', g6, g7, p1, p2, gr7, k7, fc, fw, b6, b7, n7', old⟩ := (gr.step x45 kg').push m5.2 (Nat.le_trans hnx hx5) (by simp [hJl.1, hJl.2]) (by
    by_cases h0 : s = 0
    · exact .inr (hs0 h0)
    · exact .inl (by rw [List.length_take, hJl.1]; omega)) (by rw [List.length_take, hJl.1]; omega) J.1[s] J.2[s]
  rw [← ht1, ← ht2] at gr7
  have ho := old g2.next hz3
  have kpz : ∀ o, rdA (g5.alloc o) (.pointer (some ⟨g2.next, 1, none⟩)) 1 = rdA g6 (.pointer (some ⟨g2.next, 1, none⟩)) 1 := fun o => by
    refine (rdA_congr (h := g5.alloc o) b6 ?_).symm
    rw [ho.1, Heap.get_alloc, if_neg (by omega)]
  have gz7 : g7.get g2.next = some { cells := [vc, vw], esz := 0 } := by rw [ho.2]; exact gz5
  have hbz7 : g7.base ≤ g2.next := by rw [b7]; exact hbz5
  have fc1 := fc.cell
  have fw1 := fw.cell
  simp only [↓SP, SQ, SG, SL, ↓reduceIte, undef, iop, isShift, Nat.reduceEqDiff, reduceCtorEq, Nat.reduceAdd, Nat.reduceMul, Nat.reduceSub, Nat.reduceLT, Nat.reduceLeDiff, Int.reduceLT, Int.reduceLE, Int.reduceEq, Int.reduceGT, Int.reduceGE, Int.reduceNeg, Int.reduceToNat, ne_eq, if_true, if_false, List.map_cons, List.map_nil, Nat.le_refl, SM, r22_19, r22_22,  ρ'_0, ρ'_1, ρ'_2, ρ'_3, ρ'_9, ρ'_13, ρ'_14, r15, gz5, hbz5, w1', w2', p1, p2, kpz, gz7, hbz7, fc1, fw1, hws, List.getElem?_toArray]
  have lt7 : g2.next < g7.next := by omega
  refine ⟨q' - 1, by omega, ⟨?_, ?_, fun y hy => ?_⟩, ?_, (k7.put lt7 _).put lt7 _, s + 1, vc', vw', rfl, by omega, by first | rfl | simp [Heap.put], (gr7.putz hz3 _).putz hz3 _, fun h => by omega⟩
  · show g7.base = g2.base; rw [b7, x45.base, xg'.base]
  · show g2.next ≤ g7.next; omega
  · have e : ((g7.put g2.next { cells := [vc', vw], esz := 0 }).put g2.next { cells := [vc', vw'], esz := 0 }).get y = g7.get y := by
      have hne : ¬ y = g2.next := by omega
      simp [Heap.put, hne]
    rw [e, (old y (by omega)).2, x45.get y (by omega), xg'.get y hy]
  · first | omega | (show g3.next ≤ g7.next; omega)

/-- The reference's least cost and number of ways. -/
theorem refLeast_spec {h : Heap} (kk : Ok h) {n k : Nat} {j c l : Value} {js : List (Int × Int)} {costs : List (List Int)} {leaves : List Int} (hj : Pairs h j js) (hcm : Mat h c costs) (hli : Ints h l leaves) (hn : n ≤ 8) (ht : treeB n js = true) (hc : costsB costs = true) (hk : costs.length = k) (hl : statesB n k leaves = true) :
    Call T1 17 [.int .i64 n, j, c, l] h (fun v h' => v = .tuple #[.int .i64 (answer k costs leaves js).1, .int .i64 (answer k costs leaves js).2] ∧ More h h') := by
  refine Call.more kk ?_
  refine Call.of (fn := f17) rfl (by simp [f17]) ?_
  unfold f17
  have hk4 : 1 ≤ k ∧ k ≤ 4 := by simp only [costsB, Bool.and_eq_true, decide_eq_true_eq] at hc; omega
  simp only [↓SP, SQ, SG, SL, ↓reduceIte, undef, iop, isShift, Nat.reduceEqDiff, reduceCtorEq, Nat.reduceAdd, Nat.reduceMul, Nat.reduceSub, Nat.reduceLT, Nat.reduceLeDiff, Int.reduceLT, Int.reduceLE, Int.reduceEq, Int.reduceGT, Int.reduceGE, Int.reduceNeg, Int.reduceToNat, ne_eq, if_true, if_false, List.map_cons, List.map_nil, Nat.le_refl, SM, r17_0, r17_1]
  refine (nodes_spec kk hj hcm hli hn ht hc hk hl).imp ?_
  rintro v g ⟨ol, mo⟩
  obtain ⟨t, t1, ft, hw, ea⟩ := root_of hn hc hk hl ht
  rw [ea]
  have rl := ol.reads
  have hlen := rl.len
  have hsm := rl.small
  generalize tabs k costs leaves js = ts at *
  have hne : ts ≠ [] := fun e => by rw [e] at t1; cases t1
  have hpos : 0 < ts.length := List.length_pos_iff.2 hne
  have hlast : ts[ts.length - 1]'(by omega) = t := by
    rw [List.getLast?_eq_getElem?, List.getElem?_eq_getElem (by omega)] at t1; simpa using t1
  obtain ⟨b, o, u, i1, _, l1, v1, w1, rfl, ⟨n1, n2, o1, c1⟩, n3, n4, o2, c2⟩ := rl.elem (i := ts.length - 1) (by omega)
  rw [hlast] at n1 n3
  have hw1 : IntKind.wrap .i64 ((ts.length : Int) - 1) = ((ts.length - 1 : Nat) : Int) := by rw [wrap_in] <;> omega
  have hclen := hcm.len
  rw [hk] at hclen
  have c5 : ((8 : Nat) : Int) * (k : Int) ≤ 281474976710656 := by omega
  have c6 : (k : Int) ≤ 9223372036854775807 := by omega
  have own := Own.intsNew (h0 := g) (.refl _) mo.2 (zeros k) (n := k) (by omega) (by simp [zeros])
  simp only [↓SP, SQ, SG, SL, ↓reduceIte, undef, iop, isShift, Nat.reduceEqDiff, reduceCtorEq, Nat.reduceAdd, Nat.reduceMul, Nat.reduceSub, Nat.reduceLT, Nat.reduceLeDiff, Int.reduceLT, Int.reduceLE, Int.reduceEq, Int.reduceGT, Int.reduceGE, Int.reduceNeg, Int.reduceToNat, ne_eq, if_true, if_false, List.map_cons, List.map_nil, Nat.le_refl, SM, r17_2,  hlen, hw1, i1, l1, hclen, c5, c6, Int.le_refl, and_self, made_ints]
  refine (best_spec (mo.2.alloc _) hk4.2 (n1.ext (.alloc _ _) mo.2) (n3.ext (.alloc _ _) mo.2) n2 n4 ft own.ints.1 (by simp [zeros]) (fun i _ => by rw [zeros_get]; omega)).imp ?_
  rintro v g2 ⟨rfl, m2⟩
  simp only [↓SP, SQ, SG, SL, ↓reduceIte, undef, iop, isShift, Nat.reduceEqDiff, reduceCtorEq, Nat.reduceAdd, Nat.reduceMul, Nat.reduceSub, Nat.reduceLT, Nat.reduceLeDiff, Int.reduceLT, Int.reduceLE, Int.reduceEq, Int.reduceGT, Int.reduceGE, Int.reduceNeg, Int.reduceToNat, ne_eq, if_true, if_false, List.map_cons, List.map_nil, Nat.le_refl, SM, List.getElem?_toArray]
  exact (mo.1.trans (.alloc _ _)).trans m2.1

end Go.AM.K
