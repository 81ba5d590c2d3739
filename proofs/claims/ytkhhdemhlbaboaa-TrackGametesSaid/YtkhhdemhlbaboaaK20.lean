/- Track: the search for the best tree. -/
import Derived.Test.YtkhhdemhlbaboaaAMS
import Derived.Test.YtkhhdemhlbaboaaK18
set_option linter.unusedVariables false
set_option linter.unusedSimpArgs false
set_option maxRecDepth 20000
namespace Go.AM.K
open Go.AM Go.AM.Fn Go.AM.TP
attribute [local congr] ite_cond

def lenF (t : List (List Int)) (m : Nat) (J : List (Int × Int)) : Int := (lenN t J m : Int)
theorem lenF_nonneg (t : List (List Int)) (m : Nat) (J : List (Int × Int)) : 0 ≤ lenF t m J := Int.natCast_nonneg _
theorem lenF_sw (t : List (List Int)) (m : Nat) (l r : List (Int × Int)) (h : Sw l r) : lenF t m l = lenF t m r := by unfold lenF; rw [lenN_sw h]

/-- What the search below some joins does. -/
def BestAt (n m mm : Nat) (t : List (List Int)) (w0 : Value) : Prop := ∀ (h : Heap) (w1 w2 : Value) (js : List (Int × Int)) (op : List Int), Ok h → Mat h w0 t → MC n js op → op.length = mm + 1 → Pairs h w1 js → (js = [] → w1 = .slice none 0 0) → Fit w1 → Ints h w2 op → Fit w2 →
  Call T1 50 [w0, w1, w2] h (fun v h' => ∃ w, v = .tuple #[.int .i64 (bestT (lenF t m) n mm js op).1, w] ∧ Pairs h' w (bestT (lenF t m) n mm js op).2 ∧ Fit w ∧ More h h')

/-- One pair. -/
def pairR (n m mm : Nat) (t : List (List Int)) (js : List (Int × Int)) (op : List Int) (i j : Nat) : Res := bestT (lenF t m) n mm (js ++ [(op.getD i 0, op.getD j 0)]) (restN op i j op.length ++ [((n + (js.length + 1) - 1 : Nat) : Int)])

set_option maxHeartbeats 4000000 in
theorem pairLoop {ρ : Nat → Value} {h g : Heap} (kh : Ok h) (kg : Ok g) (xg : Ext h g) {n m mm : Nat} {t : List (List Int)} (T : TabOk n m t) {w0 w1 w2 v35 ws : Value} (IH : BestAt n m mm t w0) (hT : Mat h w0 t) {js : List (Int × Int)} {op : List Int} (M : MC n js op) (hl : op.length = mm + 2) (h1 : Pairs h w1 js) (hnil : js = [] → w1 = .slice none 0 0) (f1 : Fit w1) (h2 : Ints h w2 op) (f2 : Fit w2)
    {i z : Nat} (hi : i < op.length) (hz : g.get z = some { cells := [.int .i64 (op.getD i 0)], esz := 0 }) (hzb : g.base ≤ z) (h35 : Ints h v35 (op.drop (i + 1))) {s : Res} (hs : Pairs g ws s.2) (fs : Fit ws)
    (r0 : ρ 0 = w0) (r1 : ρ 1 = w1) (r2 : ρ 2 = w2) (r8 : ρ 8 = .int .i64 s.1) (r9 : ρ 9 = ws) (r11 : ρ 11 = .pointer (some ⟨z, 0, none⟩)) (r35 : ρ 35 = v35) (r36 : ρ 36 = .int .i64 ((op.length - (i + 1) : Nat) : Int)) (r37 : ρ 37 = .int .i64 0) :
    wpC (Call T1) (.loop b50_1) (fun e ρ' g' => e = .exit 2 ∧ Ok g' ∧ Ext g g' ∧ ρ' 8 = .int .i64 (scanI (pairR n m mm t js op) i s (op.length - (i + 1))).1 ∧ Pairs g' (ρ' 9) (scanI (pairR n m mm t js op) i s (op.length - (i + 1))).2 ∧ Fit (ρ' 9)) ρ g := by
  have hsz := M.mi.size
  have n5 := T.n5
  refine wp_loopK Call.mono (fun q ρ g' => Ok g' ∧ Ext g g' ∧ ∃ (d : Nat) (w : Value), ρ 37 = .int .i64 d ∧ ρ 9 = w ∧ d + q = op.length - (i + 1) ∧ ρ 8 = .int .i64 (scanI (pairR n m mm t js op) i s d).1 ∧ Pairs g' w (scanI (pairR n m mm t js op) i s d).2 ∧ Fit w) ?_ (m := op.length - (i + 1)) ⟨kg, .refl _, 0, ws, r37, r9, by omega, r8, hs, fs⟩
  rintro q ρ1 g0 ⟨k0, x0, d, w, q37, q9, hq, q8, hw, fw⟩ keep
  have ρ1_0 : ρ1 0 = w0 := by rw [keep 0 (of_decide_eq_true rfl)]; exact r0
  have ρ1_1 : ρ1 1 = w1 := by rw [keep 1 (of_decide_eq_true rfl)]; exact r1
  have ρ1_2 : ρ1 2 = w2 := by rw [keep 2 (of_decide_eq_true rfl)]; exact r2
  have ρ1_11 : ρ1 11 = .pointer (some ⟨z, 0, none⟩) := by rw [keep 11 (of_decide_eq_true rfl)]; exact r11
  have ρ1_35 : ρ1 35 = v35 := by rw [keep 35 (of_decide_eq_true rfl)]; exact r35
  have ρ1_36 : ρ1 36 = .int .i64 ((op.length - (i + 1) : Nat) : Int) := by rw [keep 36 (of_decide_eq_true rfl)]; exact r36
  clear keep
  unfold b50_1
  by_cases hd : d < op.length - (i + 1)
  rotate_left
  · have : d = op.length - (i + 1) := by omega
    rw [this] at q8 hw q37
    simp only [↓SP, SQ, SG, SL, ↓reduceIte, undef, iop, isShift, Nat.reduceEqDiff, reduceCtorEq, Nat.reduceAdd, Nat.reduceMul, Nat.reduceSub, Nat.reduceLT, Nat.reduceLeDiff, Int.reduceLT, Int.reduceLE, Int.reduceEq, Int.reduceGT, Int.reduceGE, Int.reduceNeg, Int.reduceToNat, ne_eq, if_true, if_false, List.map_cons, List.map_nil, Nat.le_refl, SM, r50_8,  ρ1_36, q37, q8, q9, Nat.lt_irrefl]
    exact ⟨k0, x0, hw, fw⟩
  obtain ⟨j, hj⟩ : ∃ j, i + 1 + d = j := ⟨_, rfl⟩
  have hjl : j < op.length := by omega
  have hij : i ≠ j := by omega
  have xh0 := xg.trans x0
  obtain ⟨p, a1, a2⟩ := (h35.ext xh0 kh).row (i := d) (by simp; omega)
  have eb : (op.drop (i + 1))[d]'(by simp; omega) = op.getD j 0 := by rw [List.getElem_drop, getD_in hjl]; congr 1
  rw [eb] at a2
  obtain ⟨x1, k1, gz1⟩ := ext_put_new (.refl g0) k0 (o := { cells := [.int .i64 0], esz := 0 }) (o' := { cells := [.int .i64 (op.getD j 0)], esz := 0 })
  have hst := store_new1 k0 (x := .int .i64 0) (a := op.getD j 0)
  have hy : g0.base ≤ g0.next := k0.le
  simp only [↓SP, SQ, SG, SL, ↓reduceIte, undef, iop, isShift, Nat.reduceEqDiff, reduceCtorEq, Nat.reduceAdd, Nat.reduceMul, Nat.reduceSub, Nat.reduceLT, Nat.reduceLeDiff, Int.reduceLT, Int.reduceLE, Int.reduceEq, Int.reduceGT, Int.reduceGE, Int.reduceNeg, Int.reduceToNat, ne_eq, if_true, if_false, List.map_cons, List.map_nil, r50_8, r50_9,  ρ1_35, ρ1_36, q37, hd, a1, a2, hst]
  have hbb : ((g0.alloc { cells := [Value.int IntKind.i64 0], esz := 0 }).put g0.next { cells := [Value.int IntKind.i64 (op.getD j 0)], esz := 0 }).base = g0.base := rfl
  generalize ((g0.alloc { cells := [Value.int IntKind.i64 0], esz := 0 }).put g0.next { cells := [Value.int IntKind.i64 (op.getD j 0)], esz := 0 }) = g1 at *
  clear hst
  generalize hyn : g0.next = y at *
  rw [← hbb] at hy
  have hz1 : g1.get z = some { cells := [.int .i64 (op.getD i 0)], esz := 0 } := by rw [(x0.trans x1).get z (kg.lt hz)]; exact hz
  have hzb1 : g1.base ≤ z := by rw [(x0.trans x1).base]; exact hzb
  have xh1 := xh0.trans x1
  have hop : op ≠ [] := fun e => by rw [e] at hl; simp at hl
  simp only [↓SP, SQ, SG, SL, ↓reduceIte, undef, iop, isShift, Nat.reduceEqDiff, reduceCtorEq, Nat.reduceAdd, Nat.reduceMul, Nat.reduceSub, Nat.reduceLT, Nat.reduceLeDiff, Int.reduceLT, Int.reduceLE, Int.reduceEq, Int.reduceGT, Int.reduceGE, Int.reduceNeg, Int.reduceToNat, ne_eq, if_true, if_false, List.map_cons, List.map_nil, Nat.le_refl, SM, r50_10,  ρ1_2]
  refine (cloneInts_spec k1 (h2.ext xh1 kh) hop (by omega)).imp ?_
  rintro v g2 ⟨b2, rfl, hb2, hlt2, m2⟩
  have hz1n := k1.lt hz1
  have hy1n := k1.lt gz1
  have ldz : ∀ gg, Over g2 gg (fun i => i = b2) → loadA gg 1 false (.pointer (some ⟨z, 0, none⟩)) = some (.int .i64 (op.getD i 0)) ∧ loadA gg 1 false (.pointer (some ⟨y, 0, none⟩)) = some (.int .i64 (op.getD j 0)) := fun gg ov => by
    have n2 := m2.1.next
    have e1 : gg.get z = some { cells := [.int .i64 (op.getD i 0)], esz := 0 } := by rw [ov.get z (by omega) (by omega), m2.1.get z hz1n]; exact hz1
    have e2 : gg.get y = some { cells := [.int .i64 (op.getD j 0)], esz := 0 } := by rw [ov.get y (by omega) (by omega), m2.1.get y hy1n]; exact gz1
    have bb : gg.base = g1.base := ov.base.trans m2.1.base
    refine ⟨?_, ?_⟩
    · rw [load1 (by rw [bb]; exact hzb1), e1]; rfl
    · rw [load1 (by rw [bb]; exact hy), e2]; rfl
  simp only [↓SP, SQ, SG, SL, ↓reduceIte, undef, iop, isShift, Nat.reduceEqDiff, reduceCtorEq, Nat.reduceAdd, Nat.reduceMul, Nat.reduceSub, Nat.reduceLT, Nat.reduceLeDiff, Int.reduceLT, Int.reduceLE, Int.reduceEq, Int.reduceGT, Int.reduceGE, Int.reduceNeg, Int.reduceToNat, ne_eq, if_true, if_false, List.map_cons, List.map_nil, ρ1_11]
  refine (delete_spec (h0 := g1) m2.2 m2.1 hb2 hlt2 (by rw [m2.1.base]; have := k1.le; omega) (by omega) (p := fun x => decide (x = op.getD i 0 ∨ x = op.getD j 0)) (fun x _ gg ov => best1_spec (ldz gg ov).1 (ldz gg ov).2) (i := i) hi (decide_eq_true (.inl (getD_in hi 0).symm)) (fun a ha => by
    have e1 : ¬ op[a]'(by omega) = op.getD i 0 := fun e => by have := getD_inj M.mi.nodup (by omega) hi ((getD_in (by omega) 0).trans e); omega
    have e2 : ¬ op[a]'(by omega) = op.getD j 0 := fun e => by have := getD_inj M.mi.nodup (by omega) hjl ((getD_in (by omega) 0).trans e); omega
    exact decide_eq_false (fun h => h.elim e1 e2))).imp ?_
  rintro v14 g3 ⟨cut, x13, k3⟩
  rw [keep_rest M.mi.nodup hi hjl] at cut
  have xh3 := xh1.trans x13
  have len0 := hT.len
  rw [T.len] at len0
  have len1 := h1.len
  have hw15 : IntKind.wrap .i64 ((n : Int) + (js.length : Int)) = ((n + (js.length + 1) - 1 : Nat) : Int) := by rw [wrap_in] <;> omega
  have gz3 : g3.get z = some { cells := [.int .i64 (op.getD i 0)], esz := 0 } := by rw [x13.get z hz1n]; exact hz1
  have gy3 : g3.get y = some { cells := [.int .i64 (op.getD j 0)], esz := 0 } := by rw [x13.get y hy1n]; exact gz1
  have bz3 : g3.base ≤ z := by rw [x13.base]; exact hzb1
  have by3 : g3.base ≤ y := by rw [x13.base]; exact hy
  simp only [↓SP, SQ, SG, SL, ↓reduceIte, undef, iop, isShift, Nat.reduceEqDiff, reduceCtorEq, Nat.reduceAdd, Nat.reduceMul, Nat.reduceSub, Nat.reduceLT, Nat.reduceLeDiff, Int.reduceLT, Int.reduceLE, Int.reduceEq, Int.reduceGT, Int.reduceGE, Int.reduceNeg, Int.reduceToNat, ne_eq, if_true, if_false, List.map_cons, List.map_nil, Nat.le_refl, SM, r50_11, r50_12,  ρ1_0, ρ1_1, ρ1_11, len0, len1, hw15, gz3, gy3, bz3, by3]
  refine (clonePairs_spec k3 (h1.ext xh3 kh) hnil (by omega)).imp ?_
  rintro v53 g4 ⟨pl, m4⟩
  have rz : rdA g3 (.pointer (some ⟨z, 0, none⟩)) 1 = rdA g4 (.pointer (some ⟨z, 0, none⟩)) 1 := by
    symm; refine rdA_congr m4.1.base ?_
    rw [m4.1.get z (k3.lt gz3)]
  have ry : rdA g3 (.pointer (some ⟨y, 0, none⟩)) 1 = rdA g4 (.pointer (some ⟨y, 0, none⟩)) 1 := by
    symm; refine rdA_congr m4.1.base ?_
    rw [m4.1.get y (k3.lt gy3)]
  obtain ⟨v58, g5, e5, pl5, x5, k5, _⟩ := PL.push m4.1 m4.2 pl (by omega) (op.getD i 0) (op.getD j 0)
  have hrl := restN_length op hij op.length
  rw [if_pos hi, if_pos hjl] at hrl
  obtain ⟨v62, g6, e6, il6, x6, k6, ov6⟩ := Cut.push (x13.trans x5) k5 (cut.step x5 k3) (by omega) ((n + (js.length + 1) - 1 : Nat) : Int)
  have pl6 : Pairs g6 v58 (js ++ [(op.getD i 0, op.getD j 0)]) := (Own.over' k5 pl5 ov6 (fun i' hb hp => by
    have c1 := Own.blk pl5 hb
    obtain ⟨bb, cells, rfl, c2, _⟩ := cut.out
    obtain ⟨nn, e⟩ := hp
    simp only [Value.slice.injEq, Option.some.injEq, Addr.mk.injEq] at e
    have c3 := k3.lt c2
    have c4 := m4.1.next
    omega) (by simp)).reads
  simp only [↓SP, SQ, SG, SL, ↓reduceIte, undef, iop, isShift, Nat.reduceEqDiff, reduceCtorEq, Nat.reduceAdd, Nat.reduceMul, Nat.reduceSub, Nat.reduceLT, Nat.reduceLeDiff, Int.reduceLT, Int.reduceLE, Int.reduceEq, Int.reduceGT, Int.reduceGE, Int.reduceNeg, Int.reduceToNat, ne_eq, if_true, if_false, List.map_cons, List.map_nil, Nat.le_refl, SM, ρ1_11, rz, ry, e5, e6]
  refine (IH g6 v58 v62 _ _ k6 (hT.ext (xh1.trans x6) kh) (M.step hi hjl hij) (by simp; omega) pl6 (by simp) (Own.fit pl5) il6.ints il6.fit).imp ?_
  rintro v g7 ⟨w17, rfl, hp17, f17, m7⟩
  have x07 : Ext g0 g7 := (x1.trans x6).trans m7.1
  have hsc : scanI (pairR n m mm t js op) i s (d + 1) = upd2 (scanI (pairR n m mm t js op) i s d) (pairR n m mm t js op i j) := by rw [scanI, hj]
  have hpr : bestT (lenF t m) n mm (js ++ [(op.getD i 0, op.getD j 0)]) (restN op i j op.length ++ [((n + (js.length + 1) - 1 : Nat) : Int)]) = pairR n m mm t js op i j := rfl
  rw [hpr] at hp17 ⊢
  generalize pairR n m mm t js op i j = R at *
  have hwd : IntKind.wrap .i64 ((d : Int) + 1) = ((d + 1 : Nat) : Int) := by rw [wrap_in] <;> omega
  have hw7 := hw.ext x07 k0
  generalize scanI (pairR n m mm t js op) i s d = S at *
  by_cases d1 : S.1 < 0
  · have hu : upd2 S R = R := by unfold upd2; rw [if_pos (.inl d1)]
    simp only [↓SP, SQ, SG, SL, ↓reduceIte, undef, iop, isShift, Nat.reduceEqDiff, reduceCtorEq, Nat.reduceAdd, Nat.reduceMul, Nat.reduceSub, Nat.reduceLT, Nat.reduceLeDiff, Int.reduceLT, Int.reduceLE, Int.reduceEq, Int.reduceGT, Int.reduceGE, Int.reduceNeg, Int.reduceToNat, ne_eq, if_true, if_false, List.map_cons, List.map_nil, Nat.le_refl, SM, r50_12, r50_13, r50_14, r50_15,  List.getElem?_toArray, q8, q9, q37, d1, hwd]
    exact ⟨q - 1, by omega, m7.2, x0.trans x07, d + 1, w17, rfl, rfl, by omega, by rw [hsc, hu], by rw [hsc, hu]; exact hp17, f17⟩
  by_cases d2 : R.1 < S.1
  · have hu : upd2 S R = R := by unfold upd2; rw [if_pos (.inr d2)]
    simp only [↓SP, SQ, SG, SL, ↓reduceIte, undef, iop, isShift, Nat.reduceEqDiff, reduceCtorEq, Nat.reduceAdd, Nat.reduceMul, Nat.reduceSub, Nat.reduceLT, Nat.reduceLeDiff, Int.reduceLT, Int.reduceLE, Int.reduceEq, Int.reduceGT, Int.reduceGE, Int.reduceNeg, Int.reduceToNat, ne_eq, if_true, if_false, List.map_cons, List.map_nil, Nat.le_refl, SM, r50_12, r50_13, r50_14, r50_15,  List.getElem?_toArray, q8, q9, q37, d1, d2, hwd]
    exact ⟨q - 1, by omega, m7.2, x0.trans x07, d + 1, w17, rfl, rfl, by omega, by rw [hsc, hu], by rw [hsc, hu]; exact hp17, f17⟩
  · have hu : upd2 S R = S := by unfold upd2; rw [if_neg (by omega)]
    simp only [↓SP, SQ, SG, SL, ↓reduceIte, undef, iop, isShift, Nat.reduceEqDiff, reduceCtorEq, Nat.reduceAdd, Nat.reduceMul, Nat.reduceSub, Nat.reduceLT, Nat.reduceLeDiff, Int.reduceLT, Int.reduceLE, Int.reduceEq, Int.reduceGT, Int.reduceGE, Int.reduceNeg, Int.reduceToNat, ne_eq, if_true, if_false, List.map_cons, List.map_nil, Nat.le_refl, SM, r50_12, r50_13, r50_15,  List.getElem?_toArray, q8, q9, q37, d1, d2, hwd]
    exact ⟨q - 1, by omega, m7.2, x0.trans x07, d + 1, w, rfl, by first | rfl | assumption, by omega, by rw [hsc, hu], by rw [hsc, hu]; exact hw7, fw⟩

set_option maxHeartbeats 4000000 in
theorem tbest_spec {n m : Nat} {t : List (List Int)} (T : TabOk n m t) (w0 : Value) : ∀ mm, BestAt n m mm t w0
  | 0 => by
    intro h w1 w2 js op kk hT M hl h1 hnil f1 h2 f2
    refine (Call.more kk (R := fun v h' => ∃ w, v = .tuple #[.int .i64 (bestT (lenF t m) n 0 js op).1, w] ∧ Pairs h' w (bestT (lenF t m) n 0 js op).2 ∧ Fit w) ?_).imp (fun v h' ⟨⟨w, a, b, c⟩, d⟩ => ⟨w, a, b, c, d⟩)
    refine Call.of (fn := f50) rfl (by simp [f50]) ?_
    unfold f50
    have len2 := h2.len
    rw [hl] at len2
    have ht := M.mi.tree ⟨T.n2, by have := T.n5; omega⟩ hl
    simp only [↓SP, SQ, SG, SL, ↓reduceIte, undef, iop, isShift, Nat.reduceEqDiff, reduceCtorEq, Nat.reduceAdd, Nat.reduceMul, Nat.reduceSub, Nat.reduceLT, Nat.reduceLeDiff, Int.reduceLT, Int.reduceLE, Int.reduceEq, Int.reduceGT, Int.reduceGE, Int.reduceNeg, Int.reduceToNat, ne_eq, if_true, if_false, List.map_cons, List.map_nil, Nat.le_refl, SM, r50_0, r50_1, r50_2,  len2]
    refine (length_spec kk T hT h1 ht).imp ?_
    rintro v g ⟨rfl, m1⟩
    simp only [↓SP, SQ, SG, SL, ↓reduceIte, undef, iop, isShift, Nat.reduceEqDiff, reduceCtorEq, Nat.reduceAdd, Nat.reduceMul, Nat.reduceSub, Nat.reduceLT, Nat.reduceLeDiff, Int.reduceLT, Int.reduceLE, Int.reduceEq, Int.reduceGT, Int.reduceGE, Int.reduceNeg, Int.reduceToNat, ne_eq, if_true, if_false, List.map_cons, List.map_nil, Nat.le_refl, SM]
    exact ⟨⟨w1, rfl, h1.ext m1.1 kk, f1⟩, m1.1⟩
  | mm + 1 => by
    intro h w1 w2 js op kk hT M hl h1 hnil f1 h2 f2
    have IH := tbest_spec T w0 mm
    refine (Call.more kk (R := fun v h' => ∃ w, v = .tuple #[.int .i64 (bestT (lenF t m) n (mm + 1) js op).1, w] ∧ Pairs h' w (bestT (lenF t m) n (mm + 1) js op).2 ∧ Fit w) ?_).imp (fun v h' ⟨⟨w, a, b, c⟩, d⟩ => ⟨w, a, b, c, d⟩)
    have hb : bestT (lenF t m) n (mm + 1) js op = scanO (pairR n m mm t js op) op.length op.length := rfl
    rw [hb]
    refine Call.of (fn := f50) rfl (by simp [f50]) ?_
    unfold f50
    have hsz := M.mi.size
    have n5 := T.n5
    have len2 := h2.len
    have hne : ¬ (op.length : Int) = 1 := by omega
    simp only [↓SP, SQ, SG, SL, ↓reduceIte, undef, iop, isShift, Nat.reduceEqDiff, reduceCtorEq, Nat.reduceAdd, Nat.reduceMul, Nat.reduceSub, Nat.reduceLT, Nat.reduceLeDiff, Int.reduceLT, Int.reduceLE, Int.reduceEq, Int.reduceGT, Int.reduceGE, Int.reduceNeg, Int.reduceToNat, ne_eq, if_true, if_false, List.map_cons, List.map_nil, Nat.le_refl, SM, r50_0, r50_1, r50_3, r50_4,  len2, hne]
    refine wp_loopK Call.mono (fun q ρ g => Ok g ∧ Ext h g ∧ ∃ (i : Nat) (w : Value), ρ 27 = .int .i64 i ∧ ρ 9 = w ∧ i + q = op.length ∧ ρ 8 = .int .i64 (scanO (pairR n m mm t js op) op.length i).1 ∧ Pairs g w (scanO (pairR n m mm t js op) op.length i).2 ∧ Fit w) ?_ (m := op.length) ⟨kk, .refl _, 0, _, rfl, rfl, by omega, rfl, Reads.nil _ _, ⟨rfl, rfl⟩⟩
    rintro q ρ g ⟨kg, xg, i, w, q27, q9, hq, q8, hw, fw⟩ keep
    have ρ_0 : ρ 0 = w0 := by rw [keep 0 (of_decide_eq_true rfl)]; first | rfl | assumption
    have ρ_1 : ρ 1 = w1 := by rw [keep 1 (of_decide_eq_true rfl)]; first | rfl | assumption
    have ρ_2 : ρ 2 = w2 := by rw [keep 2 (of_decide_eq_true rfl)]; first | rfl | assumption
    have ρ_25 : ρ 25 = w2 := by rw [keep 25 (of_decide_eq_true rfl)]; first | rfl | assumption
    have ρ_26 : ρ 26 = .int .i64 op.length := by rw [keep 26 (of_decide_eq_true rfl)]; first | rfl | assumption
    clear keep
    unfold b50_2
    by_cases hi : i < op.length
    rotate_left
    · have : i = op.length := by omega
      rw [this] at q8 hw q27
      simp only [↓SP, SQ, SG, SL, ↓reduceIte, undef, iop, isShift, Nat.reduceEqDiff, reduceCtorEq, Nat.reduceAdd, Nat.reduceMul, Nat.reduceSub, Nat.reduceLT, Nat.reduceLeDiff, Int.reduceLT, Int.reduceLE, Int.reduceEq, Int.reduceGT, Int.reduceGE, Int.reduceNeg, Int.reduceToNat, ne_eq, if_true, if_false, List.map_cons, List.map_nil, Nat.le_refl, SM, r50_5, r50_17,  ρ_26, q27, q8, q9, Nat.lt_irrefl]
      exact ⟨⟨w, rfl, hw, fw⟩, xg⟩
    obtain ⟨p, a1, a2⟩ := (h2.ext xg kk).row hi
    rw [← getD_in hi 0] at a2
    obtain ⟨x1, k1, gz1⟩ := ext_put_new (.refl g) kg (o := { cells := [.int .i64 0], esz := 0 }) (o' := { cells := [.int .i64 (op.getD i 0)], esz := 0 })
    have hst := store_new1 kg (x := .int .i64 0) (a := op.getD i 0)
    have hy : g.base ≤ g.next := kg.le
    simp only [↓SP, SQ, SG, SL, ↓reduceIte, undef, iop, isShift, Nat.reduceEqDiff, reduceCtorEq, Nat.reduceAdd, Nat.reduceMul, Nat.reduceSub, Nat.reduceLT, Nat.reduceLeDiff, Int.reduceLT, Int.reduceLE, Int.reduceEq, Int.reduceGT, Int.reduceGE, Int.reduceNeg, Int.reduceToNat, ne_eq, if_true, if_false, List.map_cons, List.map_nil, r50_5, r50_6,  ρ_25, ρ_26, q27, hi, a1, a2, hst]
    have hbb : ((g.alloc { cells := [Value.int IntKind.i64 0], esz := 0 }).put g.next { cells := [Value.int IntKind.i64 (op.getD i 0)], esz := 0 }).base = g.base := rfl
    generalize ((g.alloc { cells := [Value.int IntKind.i64 0], esz := 0 }).put g.next { cells := [Value.int IntKind.i64 (op.getD i 0)], esz := 0 }) = g1 at *
    clear hst
    generalize hyn : g.next = z at *
    rw [← hbb] at hy
    obtain ⟨v35, hcut, rc, fc, _⟩ := Reads.cut h2 f2 (a := i + 1) (b := op.length) (by omega) (Nat.le_refl _)
    have h35 : Ints h v35 (op.drop (i + 1)) := by
      unfold Ints
      have e2 : ((op.map (Value.int .i64)).drop ((i + 1) * 1)).take ((op.length - (i + 1)) * 1) = (op.drop (i + 1)).map (Value.int .i64) := by
        rw [Nat.mul_one, Nat.mul_one, List.map_drop, List.take_of_length_le (by simp)]
      rw [e2] at rc
      rw [List.length_drop]; exact rc
    have len35 := h35.len
    rw [List.length_drop] at len35
    have hcut' : ∀ ρ : Nat → Value, ρ 34 = .int .i64 ((i + 1 : Nat) : Int) → sliceA 1 w2 (some (.tmp 34)) none none ρ = some v35 := fun ρ hr => hcut _ _ _ (bnd_tmp hr) rfl
    have hws : IntKind.wrap .i64 ((i : Int) + 1) = ((i + 1 : Nat) : Int) := by rw [wrap_in] <;> omega
    simp only [↓SP, SQ, SG, SL, ↓reduceIte, undef, iop, isShift, Nat.reduceEqDiff, reduceCtorEq, Nat.reduceAdd, Nat.reduceMul, Nat.reduceSub, Nat.reduceLT, Nat.reduceLeDiff, Int.reduceLT, Int.reduceLE, Int.reduceEq, Int.reduceGT, Int.reduceGE, Int.reduceNeg, Int.reduceToNat, ne_eq, if_true, if_false, List.map_cons, List.map_nil, Nat.le_refl, SM, r50_7,  ρ_2, q27, hws, hcut', len35]
    refine wp_doneK Call.mono (pairLoop (s := scanO (pairR n m mm t js op) op.length i) kk k1 (xg.trans x1) T IH hT M hl h1 hnil f1 h2 f2 hi gz1 hy h35 (hw.ext x1 kg) fw ρ_0 ρ_1 ρ_2 q8 q9 rfl rfl rfl rfl) ?_
    rintro e ρ4 g4 ⟨rfl, k4, x4, e8, p9, f9⟩ keep4
    have k27 := (keep4 27 (of_decide_eq_true rfl)).trans q27
    simp only [↓SP, SQ, SG, SL, ↓reduceIte, undef, iop, isShift, Nat.reduceEqDiff, reduceCtorEq, Nat.reduceAdd, Nat.reduceMul, Nat.reduceSub, Nat.reduceLT, Nat.reduceLeDiff, Int.reduceLT, Int.reduceLE, Int.reduceEq, Int.reduceGT, Int.reduceGE, Int.reduceNeg, Int.reduceToNat, ne_eq, if_true, if_false, List.map_cons, List.map_nil, Nat.le_refl, SM, r50_16,  k27, hws]
    exact ⟨q - 1, by omega, k4, (xg.trans x1).trans x4, i + 1, _, rfl, rfl, by omega, e8, p9, f9⟩

/-- A table that the program takes. -/
def tabB (t : List (List Int)) : Bool := decide (2 ≤ t.length ∧ t.length ≤ 5 ∧ 1 ≤ (t.getD 0 []).length ∧ (t.getD 0 []).length ≤ 6) && t.all fun r => statesB ((t.getD 0 []).length : Nat) 4 r

theorem tabB_ok {t : List (List Int)} (h : tabB t = true) : TabOk t.length (t.getD 0 []).length t := by
  simp only [tabB, Bool.and_eq_true, decide_eq_true_eq, List.all_eq_true] at h
  exact ⟨h.1.1, h.1.2.1, h.1.2.2.1, h.1.2.2.2, rfl, h.2⟩
theorem tabB_of {n m : Nat} {t : List (List Int)} (T : TabOk n m t) : tabB t = true ∧ t.length = n ∧ (t.getD 0 []).length = m := by
  have h0 : 0 < t.length := by have := T.n2; have := T.len; omega
  have hr : (t.getD 0 []).length = m := by
    have h := T.row _ (List.getElem_mem h0)
    simp only [statesB, Bool.and_eq_true, decide_eq_true_eq] at h
    rw [getD_in h0]; omega
  have a1 := T.n2
  have a2 := T.n5
  have a3 := T.m1
  have a4 := T.m6
  have a5 := T.len
  refine ⟨?_, a5, hr⟩
  simp only [tabB, Bool.and_eq_true, decide_eq_true_eq, List.all_eq_true, hr]
  exact ⟨by omega, T.row⟩

theorem rows1_spec {h : Heap} (kk : Ok h) {z : Nat} {w0 v : Value} {t : List (List Int)} {r : List Int} (hT : Mat h w0 t) (h0 : 0 < t.length) (hz : h.get z = some { cells := [w0], esz := 0 }) (hzb : h.base ≤ z) (hr : Ints h v r) :
    Call T1 64 [v, .pointer (some ⟨z, 0, none⟩)] h (fun u h' => u = .bool (!statesB ((t.getD 0 []).length : Nat) 4 r) ∧ More h h') := by
  refine Call.more kk ?_
  refine Call.of (fn := f64) rfl (by simp [f64]) ?_
  unfold f64
  obtain ⟨p, u, a1, a2, a3, _⟩ := hT.row h0
  have a4 := a3.len
  rw [← getD_in h0 []] at a4
  have a1' : iaddrA 1 w0 (.int .i64 0) = some p := a1
  simp only [↓SP, SQ, SG, SL, ↓reduceIte, undef, iop, isShift, Nat.reduceEqDiff, reduceCtorEq, Nat.reduceAdd, Nat.reduceMul, Nat.reduceSub, Nat.reduceLT, Nat.reduceLeDiff, Int.reduceLT, Int.reduceLE, Int.reduceEq, Int.reduceGT, Int.reduceGE, Int.reduceNeg, Int.reduceToNat, ne_eq, if_true, if_false, List.map_cons, List.map_nil, Nat.le_refl, SM, r64_0, r64_1, hz, hzb, a1', a2, a4]
  refine (pstates_spec kk hr).imp ?_
  rintro v g ⟨rfl, m1⟩
  simp only [↓SP, SQ, SG, SL, ↓reduceIte, undef, iop, isShift, Nat.reduceEqDiff, reduceCtorEq, Nat.reduceAdd, Nat.reduceMul, Nat.reduceSub, Nat.reduceLT, Nat.reduceLeDiff, Int.reduceLT, Int.reduceLE, Int.reduceEq, Int.reduceGT, Int.reduceGE, Int.reduceNeg, Int.reduceToNat, ne_eq, if_true, if_false, List.map_cons, List.map_nil, Nat.le_refl, SM]
  exact m1.1

set_option maxHeartbeats 1000000 in
theorem trows_spec {h : Heap} (kk : Ok h) {w0 : Value} {t : List (List Int)} (hT : Mat h w0 t) (f0 : Fit w0) : Call T1 49 [w0] h (fun v h' => v = .bool (tabB t) ∧ More h h') := by
  refine Call.more kk ?_
  refine Call.of (fn := f49) rfl (by simp [f49]) ?_
  unfold f49
  have c0 := f0.cell
  have x1 : Ext h (h.alloc { cells := [w0], esz := 0 }) := .alloc _ _
  have k1 : Ok (h.alloc { cells := [w0], esz := 0 }) := kk.alloc _
  have g1 : (h.alloc { cells := [w0], esz := 0 }).get h.next = some { cells := [w0], esz := 0 } := by simp [Heap.alloc]
  have b1 : (h.alloc { cells := [w0], esz := 0 }).base ≤ h.next := kk.le
  simp only [↓SP, SQ, SG, SL, ↓reduceIte, undef, iop, isShift, Nat.reduceEqDiff, reduceCtorEq, Nat.reduceAdd, Nat.reduceMul, Nat.reduceSub, Nat.reduceLT, Nat.reduceLeDiff, Int.reduceLT, Int.reduceLE, Int.reduceEq, Int.reduceGT, Int.reduceGE, Int.reduceNeg, Int.reduceToNat, ne_eq, if_true, if_false, List.map_cons, List.map_nil, r49_0,  c0]
  generalize (h.alloc { cells := [w0], esz := 0 }) = g at *
  have hT1 := hT.ext x1 kk
  have len0 := hT.len
  by_cases d1 : (t.length : Int) < 2
  · have e : tabB t = false := by rw [tabB, decide_eq_false (by omega), Bool.false_and]
    simp only [↓SP, SQ, SG, SL, ↓reduceIte, undef, iop, isShift, Nat.reduceEqDiff, reduceCtorEq, Nat.reduceAdd, Nat.reduceMul, Nat.reduceSub, Nat.reduceLT, Nat.reduceLeDiff, Int.reduceLT, Int.reduceLE, Int.reduceEq, Int.reduceGT, Int.reduceGE, Int.reduceNeg, Int.reduceToNat, ne_eq, if_true, if_false, List.map_cons, List.map_nil, Nat.le_refl, SM, r49_1, r49_2,  g1, b1, len0, d1, e]
    exact x1
  by_cases d2 : (5 : Int) < (t.length : Int)
  · have e : tabB t = false := by rw [tabB, decide_eq_false (by omega), Bool.false_and]
    simp only [↓SP, SQ, SG, SL, ↓reduceIte, undef, iop, isShift, Nat.reduceEqDiff, reduceCtorEq, Nat.reduceAdd, Nat.reduceMul, Nat.reduceSub, Nat.reduceLT, Nat.reduceLeDiff, Int.reduceLT, Int.reduceLE, Int.reduceEq, Int.reduceGT, Int.reduceGE, Int.reduceNeg, Int.reduceToNat, ne_eq, if_true, if_false, List.map_cons, List.map_nil, Nat.le_refl, SM, r49_1, r49_2,  g1, b1, len0, d1, d2, e]
    exact x1
  have h0 : 0 < t.length := by omega
  obtain ⟨p, u, a1, a2, a3, _⟩ := hT1.row h0
  have a4 := a3.len
  rw [← getD_in h0 []] at a4
  have a1' : iaddrA 1 w0 (.int .i64 0) = some p := a1
  by_cases d3 : ((t.getD 0 []).length : Int) < 1
  · have e : tabB t = false := by rw [tabB, decide_eq_false (by omega), Bool.false_and]
    simp only [↓SP, SQ, SG, SL, ↓reduceIte, undef, iop, isShift, Nat.reduceEqDiff, reduceCtorEq, Nat.reduceAdd, Nat.reduceMul, Nat.reduceSub, Nat.reduceLT, Nat.reduceLeDiff, Int.reduceLT, Int.reduceLE, Int.reduceEq, Int.reduceGT, Int.reduceGE, Int.reduceNeg, Int.reduceToNat, ne_eq, if_true, if_false, List.map_cons, List.map_nil, Nat.le_refl, SM, r49_1, r49_2,  g1, b1, len0, d1, d2, a1', a2, a4, d3, e]
    exact x1
  by_cases d4 : (6 : Int) < ((t.getD 0 []).length : Int)
  · have e : tabB t = false := by rw [tabB, decide_eq_false (by omega), Bool.false_and]
    simp only [↓SP, SQ, SG, SL, ↓reduceIte, undef, iop, isShift, Nat.reduceEqDiff, reduceCtorEq, Nat.reduceAdd, Nat.reduceMul, Nat.reduceSub, Nat.reduceLT, Nat.reduceLeDiff, Int.reduceLT, Int.reduceLE, Int.reduceEq, Int.reduceGT, Int.reduceGE, Int.reduceNeg, Int.reduceToNat, ne_eq, if_true, if_false, List.map_cons, List.map_nil, Nat.le_refl, SM, r49_1, r49_2,  g1, b1, len0, d1, d2, a1', a2, a4, d3, d4, e]
    exact x1
  have e : tabB t = t.all fun r => statesB ((t.getD 0 []).length : Nat) 4 r := by rw [tabB, decide_eq_true (by omega), Bool.true_and]
  simp only [↓SP, SQ, SG, SL, ↓reduceIte, undef, iop, isShift, Nat.reduceEqDiff, reduceCtorEq, Nat.reduceAdd, Nat.reduceMul, Nat.reduceSub, Nat.reduceLT, Nat.reduceLeDiff, Int.reduceLT, Int.reduceLE, Int.reduceEq, Int.reduceGT, Int.reduceGE, Int.reduceNeg, Int.reduceToNat, ne_eq, if_true, if_false, List.map_cons, List.map_nil, Nat.le_refl, SM, r49_1, r49_3,  g1, b1, len0, d1, d2, a1', a2, a4, d3, d4]
  refine (containsRows_spec (p := fun r => !statesB ((t.getD 0 []).length : Nat) 4 r) k1 hT1 (fun r hr v g' m hv => rows1_spec m.2 (hT1.ext m.1 k1) h0 (by rw [m.1.get _ (k1.lt g1)]; exact g1) (by rw [m.1.base]; exact b1) hv)).imp ?_
  rintro v g2 ⟨rfl, m2⟩
  rw [any_not_all']
  rw [e]
  cases ha : t.all fun r => statesB ((t.getD 0 []).length : Nat) 4 r with
  | true =>
    simp only [↓SP, SQ, SG, SL, ↓reduceIte, undef, iop, isShift, Nat.reduceEqDiff, reduceCtorEq, Nat.reduceAdd, Nat.reduceMul, Nat.reduceSub, Nat.reduceLT, Nat.reduceLeDiff, Int.reduceLT, Int.reduceLE, Int.reduceEq, Int.reduceGT, Int.reduceGE, Int.reduceNeg, Int.reduceToNat, ne_eq, if_true, if_false, List.map_cons, List.map_nil, Nat.le_refl, SM]
    exact x1.trans m2.1
  | false =>
    simp only [↓SP, SQ, SG, SL, ↓reduceIte, undef, iop, isShift, Nat.reduceEqDiff, reduceCtorEq, Nat.reduceAdd, Nat.reduceMul, Nat.reduceSub, Nat.reduceLT, Nat.reduceLeDiff, Int.reduceLT, Int.reduceLE, Int.reduceEq, Int.reduceGT, Int.reduceGE, Int.reduceNeg, Int.reduceToNat, ne_eq, if_true, if_false, List.map_cons, List.map_nil, Nat.le_refl, SM]
    exact x1.trans m2.1

/-- What Best and Tree return. -/
def bestR (t : List (List Int)) : Res := bestT (lenF t (t.getD 0 []).length) t.length (t.length - 1) [] (upto t.length)

theorem lawBest_spec {h : Heap} (kk : Ok h) {w0 : Value} {t : List (List Int)} (hT : Mat h w0 t) (f0 : Fit w0) :
    Call T1 27 [w0] h (fun v h' => v = .tuple #[.int .i64 (if tabB t = true then (bestR t).1 else 0), .int .i64 (if tabB t = true then 0 else 2)] ∧ More h h') := by
  refine Call.more kk ?_
  refine Call.of (fn := f27) rfl (by simp [f27]) ?_
  unfold f27
  simp only [↓SP, SQ, SG, SL, ↓reduceIte, undef, iop, isShift, Nat.reduceEqDiff, reduceCtorEq, Nat.reduceAdd, Nat.reduceMul, Nat.reduceSub, Nat.reduceLT, Nat.reduceLeDiff, Int.reduceLT, Int.reduceLE, Int.reduceEq, Int.reduceGT, Int.reduceGE, Int.reduceNeg, Int.reduceToNat, ne_eq, if_true, if_false, List.map_cons, List.map_nil, Nat.le_refl, SM, r27_0, r27_1]
  refine (trows_spec kk hT f0).imp ?_
  rintro v g ⟨rfl, m0⟩
  by_cases ht : tabB t = true
  rotate_left
  · rw [if_neg ht, if_neg ht]
    simp only [↓SP, SQ, SG, SL, ↓reduceIte, undef, iop, isShift, Nat.reduceEqDiff, reduceCtorEq, Nat.reduceAdd, Nat.reduceMul, Nat.reduceSub, Nat.reduceLT, Nat.reduceLeDiff, Int.reduceLT, Int.reduceLE, Int.reduceEq, Int.reduceGT, Int.reduceGE, Int.reduceNeg, Int.reduceToNat, ne_eq, if_true, if_false, List.map_cons, List.map_nil, Nat.le_refl, SM, r27_2,  ht]
    exact m0.1
  rw [if_pos ht, if_pos ht]
  have T := tabB_ok ht
  simp only [↓SP, SQ, SG, SL, ↓reduceIte, undef, iop, isShift, Nat.reduceEqDiff, reduceCtorEq, Nat.reduceAdd, Nat.reduceMul, Nat.reduceSub, Nat.reduceLT, Nat.reduceLeDiff, Int.reduceLT, Int.reduceLE, Int.reduceEq, Int.reduceGT, Int.reduceGE, Int.reduceNeg, Int.reduceToNat, ne_eq, if_true, if_false, List.map_cons, List.map_nil, Nat.le_refl, SM, r27_3,  ht]
  refine (all_spec m0.2 (n := t.length) (by have := T.n5; omega) hT.len).imp ?_
  rintro v g1 ⟨il, m1⟩
  have m01 := m0.trans m1
  simp only [↓SP, SQ, SG, SL, ↓reduceIte, undef, iop, isShift, Nat.reduceEqDiff, reduceCtorEq, Nat.reduceAdd, Nat.reduceMul, Nat.reduceSub, Nat.reduceLT, Nat.reduceLeDiff, Int.reduceLT, Int.reduceLE, Int.reduceEq, Int.reduceGT, Int.reduceGE, Int.reduceNeg, Int.reduceToNat, ne_eq, if_true, if_false, List.map_cons, List.map_nil, Nat.le_refl, SM]
  refine (tbest_spec T w0 (t.length - 1) g1 (.slice none 0 0) v [] (upto t.length) m1.2 (hT.ext m01.1 kk) (MC.start _) (by have := T.n2; simp [upto]; omega) (Reads.nil _ _) (fun _ => rfl) ⟨rfl, rfl⟩ il.ints il.fit).imp ?_
  rintro v g2 ⟨w, rfl, _, _, m2⟩
  simp only [↓SP, SQ, SG, SL, ↓reduceIte, undef, iop, isShift, Nat.reduceEqDiff, reduceCtorEq, Nat.reduceAdd, Nat.reduceMul, Nat.reduceSub, Nat.reduceLT, Nat.reduceLeDiff, Int.reduceLT, Int.reduceLE, Int.reduceEq, Int.reduceGT, Int.reduceGE, Int.reduceNeg, Int.reduceToNat, ne_eq, if_true, if_false, List.map_cons, List.map_nil, Nat.le_refl, SM, r27_4,  List.getElem?_toArray]
  exact ⟨rfl, m01.1.trans m2.1⟩

theorem lawTree_spec {h : Heap} (kk : Ok h) {w0 : Value} {t : List (List Int)} (hT : Mat h w0 t) (f0 : Fit w0) :
    Call T1 29 [w0] h (fun v h' => ∃ w, v = .tuple #[w, .int .i64 (if tabB t = true then 0 else 2)] ∧ Pairs h' w (if tabB t = true then (bestR t).2 else []) ∧ Fit w ∧ More h h') := by
  refine (Call.more kk (R := fun v h' => ∃ w, v = .tuple #[w, .int .i64 (if tabB t = true then 0 else 2)] ∧ Pairs h' w (if tabB t = true then (bestR t).2 else []) ∧ Fit w) ?_).imp (fun v h' ⟨⟨w, a, b, c⟩, d⟩ => ⟨w, a, b, c, d⟩)
  refine Call.of (fn := f29) rfl (by simp [f29]) ?_
  unfold f29
  simp only [↓SP, SQ, SG, SL, ↓reduceIte, undef, iop, isShift, Nat.reduceEqDiff, reduceCtorEq, Nat.reduceAdd, Nat.reduceMul, Nat.reduceSub, Nat.reduceLT, Nat.reduceLeDiff, Int.reduceLT, Int.reduceLE, Int.reduceEq, Int.reduceGT, Int.reduceGE, Int.reduceNeg, Int.reduceToNat, ne_eq, if_true, if_false, List.map_cons, List.map_nil, Nat.le_refl, SM, r29_0, r29_1]
  refine (trows_spec kk hT f0).imp ?_
  rintro v g ⟨rfl, m0⟩
  by_cases ht : tabB t = true
  rotate_left
  · rw [if_neg ht, if_neg ht]
    simp only [↓SP, SQ, SG, SL, ↓reduceIte, undef, iop, isShift, Nat.reduceEqDiff, reduceCtorEq, Nat.reduceAdd, Nat.reduceMul, Nat.reduceSub, Nat.reduceLT, Nat.reduceLeDiff, Int.reduceLT, Int.reduceLE, Int.reduceEq, Int.reduceGT, Int.reduceGE, Int.reduceNeg, Int.reduceToNat, ne_eq, if_true, if_false, List.map_cons, List.map_nil, Nat.le_refl, SM, r29_2,  ht]
    exact ⟨⟨_, rfl, Reads.nil _ _, ⟨rfl, rfl⟩⟩, m0.1⟩
  rw [if_pos ht, if_pos ht]
  have T := tabB_ok ht
  simp only [↓SP, SQ, SG, SL, ↓reduceIte, undef, iop, isShift, Nat.reduceEqDiff, reduceCtorEq, Nat.reduceAdd, Nat.reduceMul, Nat.reduceSub, Nat.reduceLT, Nat.reduceLeDiff, Int.reduceLT, Int.reduceLE, Int.reduceEq, Int.reduceGT, Int.reduceGE, Int.reduceNeg, Int.reduceToNat, ne_eq, if_true, if_false, List.map_cons, List.map_nil, Nat.le_refl, SM, r29_3,  ht]
  refine (all_spec m0.2 (n := t.length) (by have := T.n5; omega) hT.len).imp ?_
  rintro v g1 ⟨il, m1⟩
  have m01 := m0.trans m1
  simp only [↓SP, SQ, SG, SL, ↓reduceIte, undef, iop, isShift, Nat.reduceEqDiff, reduceCtorEq, Nat.reduceAdd, Nat.reduceMul, Nat.reduceSub, Nat.reduceLT, Nat.reduceLeDiff, Int.reduceLT, Int.reduceLE, Int.reduceEq, Int.reduceGT, Int.reduceGE, Int.reduceNeg, Int.reduceToNat, ne_eq, if_true, if_false, List.map_cons, List.map_nil, Nat.le_refl, SM]
  refine (tbest_spec T w0 (t.length - 1) g1 (.slice none 0 0) v [] (upto t.length) m1.2 (hT.ext m01.1 kk) (MC.start _) (by have := T.n2; simp [upto]; omega) (Reads.nil _ _) (fun _ => rfl) ⟨rfl, rfl⟩ il.ints il.fit).imp ?_
  rintro v g2 ⟨w, rfl, hp, fw, m2⟩
  simp only [↓SP, SQ, SG, SL, ↓reduceIte, undef, iop, isShift, Nat.reduceEqDiff, reduceCtorEq, Nat.reduceAdd, Nat.reduceMul, Nat.reduceSub, Nat.reduceLT, Nat.reduceLeDiff, Int.reduceLT, Int.reduceLE, Int.reduceEq, Int.reduceGT, Int.reduceGE, Int.reduceNeg, Int.reduceToNat, ne_eq, if_true, if_false, List.map_cons, List.map_nil, Nat.le_refl, SM, r29_4,  List.getElem?_toArray]
  exact ⟨⟨w, rfl, hp, fw⟩, m01.1.trans m2.1⟩

end Go.AM.K
