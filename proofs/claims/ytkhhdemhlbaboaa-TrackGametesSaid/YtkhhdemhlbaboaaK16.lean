/- Track: Fitch. -/
import Derived.Test.YtkhhdemhlbaboaaAMS
import Derived.Test.YtkhhdemhlbaboaaK15
set_option linter.unusedVariables false
set_option linter.unusedSimpArgs false
set_option maxRecDepth 20000
namespace Go.AM.K
open Go.AM Go.AM.Fn Go.AM.TP
attribute [local congr] ite_cond

theorem oneOrTuple_three {a b c : Value} : oneOrTuple [a, b, c] = .tuple #[a, b, c] := _root_.id rfl

/-- The states of a set. -/
def bitList (k S : Nat) : List Int := ((List.range k).filter fun i => S.testBit i).map Int.ofNat
theorem bitList_succ (k S : Nat) : bitList (k + 1) S = if S.testBit k = true then bitList k S ++ [(k : Int)] else bitList k S := by
  unfold bitList
  rw [List.range_succ, List.filter_append]
  by_cases h : S.testBit k = true
  · simp [h]
  · simp [h]
theorem bitList_length (k S : Nat) : (bitList k S).length ≤ k := by
  unfold bitList
  rw [List.length_map]
  exact Nat.le_trans (List.length_filter_le _ _) (by simp)

set_option maxHeartbeats 1000000 in
theorem bitLoop {ρ : Nat → Value} {g0 g : Heap} (kg : Ok g) (xg : Ext g0 g) {S k : Nat} (hS : S < 16) (hk : k ≤ 4) {u : Value} (hu : IL g0 g u []) (h15 : ρ 15 = .int .i64 S) (h16 : ρ 16 = u) (h51 : ρ 51 = .int .i64 k) (h52 : ρ 52 = .int .i64 0) :
    wpC (Call T1) (.loop b20_1) (fun e ρ' g' => e = .exit 3 ∧ Ok g' ∧ Ext g0 g' ∧ IL g0 g' (ρ' 16) (bitList k S)) ρ g := by
  refine wp_loopK Call.mono (fun q ρ g' => Ok g' ∧ Ext g0 g' ∧ ∃ (i : Nat) (u' : Value), ρ 16 = u' ∧ ρ 52 = .int .i64 i ∧ i + q = k ∧ IL g0 g' u' (bitList i S)) ?_ (m := k) ⟨kg, xg, 0, u, h16, h52, by omega, hu⟩
  rintro q ρ1 g' ⟨kg', xg', i, u', q16, q52, hq, r⟩ keep
  have ρ1_15 : ρ1 15 = .int .i64 S := by rw [keep 15 (of_decide_eq_true rfl)]; exact h15
  have ρ1_51 : ρ1 51 = .int .i64 k := by rw [keep 51 (of_decide_eq_true rfl)]; exact h51
  unfold b20_1
  by_cases hi : i < k
  rotate_left
  · have : i = k := by omega
    subst this
    simp only [↓SP, SQ, SG, SL, ↓reduceIte, undef, iop, isShift, Nat.reduceEqDiff, reduceCtorEq, Nat.reduceAdd, Nat.reduceMul, Nat.reduceSub, Nat.reduceLT, Nat.reduceLeDiff, Int.reduceLT, Int.reduceLE, Int.reduceEq, Int.reduceGT, Int.reduceGE, Int.reduceNeg, Int.reduceToNat, ne_eq, if_true, if_false, List.map_cons, List.map_nil, Nat.le_refl, SM, r20_12,  ρ1_51, q16, q52, Nat.lt_irrefl]
    exact ⟨kg', xg', r⟩
  have hws : IntKind.wrap .i64 ((i : Int) + 1) = ((i + 1 : Nat) : Int) := by rw [wrap_in] <;> omega
  have hi0 : ¬ (i : Int) < 0 := by omega
  have hsh := shr_code hS (s := i) (by omega)
  have hbl := bitList_succ i S
  by_cases hb : S.testBit i = true
  · rw [if_pos hb] at hsh hbl
    obtain ⟨v5, g5, e5, r5, x5, k5, _⟩ := r.push xg' kg' (by have := bitList_length i S; omega) (i : Int)
    simp only [↓SP, SQ, SG, SL, ↓reduceIte, undef, iop, isShift, Nat.reduceEqDiff, reduceCtorEq, Nat.reduceAdd, Nat.reduceMul, Nat.reduceSub, Nat.reduceLT, Nat.reduceLeDiff, Int.reduceLT, Int.reduceLE, Int.reduceEq, Int.reduceGT, Int.reduceGE, Int.reduceNeg, Int.reduceToNat, ne_eq, if_true, if_false, List.map_cons, List.map_nil, Nat.le_refl, SM, r20_12, r20_13, r20_14, r20_15, r20_16,  ρ1_15, ρ1_51, q16, q52, hi, hi0, hsh, e5, hws]
    exact ⟨q - 1, by omega, k5, x5, i + 1, _, rfl, rfl, by omega, by rw [hbl]; exact r5.elder xg'.next⟩
  · rw [if_neg hb] at hsh hbl
    simp only [↓SP, SQ, SG, SL, ↓reduceIte, undef, iop, isShift, Nat.reduceEqDiff, reduceCtorEq, Nat.reduceAdd, Nat.reduceMul, Nat.reduceSub, Nat.reduceLT, Nat.reduceLeDiff, Int.reduceLT, Int.reduceLE, Int.reduceEq, Int.reduceGT, Int.reduceGE, Int.reduceNeg, Int.reduceToNat, ne_eq, if_true, if_false, List.map_cons, List.map_nil, Nat.le_refl, SM, r20_12, r20_13, r20_14, r20_16,  ρ1_15, ρ1_51, q16, q52, hi, hi0, hsh, hws]
    exact ⟨q - 1, by omega, kg', xg', i + 1, _, by first | rfl | assumption, rfl, by omega, by rw [hbl]; exact r⟩

set_option maxHeartbeats 2000000 in
theorem lawFitch_spec {h : Heap} (kk : Ok h) {n k : Nat} (n2 : 2 ≤ n) (n8 : n ≤ 8) (hk4 : 1 ≤ k ∧ k ≤ 4) {w1 w3 : Value} {J : List (Int × Int)} (hJ : Pairs h w1 J) (ht : treeB n J = true) {L : List Int} (hL : Ints h w3 L) (sl : statesB n k L = true) :
    Call T1 20 [.int .i64 n, w1, .int .i64 k, w3] h (fun v h' => ∃ w, v = .tuple #[w, .int .i64 (fitchN (bitsOf L) 0 J).2, .int .i64 0] ∧ OL eInts h h' w (((fitchN (bitsOf L) 0 J).1.drop n).map (bitList k)) ∧ More h h') := by
  refine (Call.more kk (R := fun v h' => ∃ w, v = .tuple #[w, .int .i64 (fitchN (bitsOf L) 0 J).2, .int .i64 0] ∧ OL eInts h h' w (((fitchN (bitsOf L) 0 J).1.drop n).map (bitList k))) ?_).imp (fun v h' ⟨⟨w, a, b⟩, c⟩ => ⟨w, a, b, c⟩)
  refine Call.of (fn := f20) rfl (by simp [f20]) ?_
  unfold f20
  have fl := fitch_least n8 hk4 ht sl
  have hsm : ∀ x ∈ (fitchN (bitsOf L) 0 J).1, x < 16 := by
    refine fitch_small J _ _ (fun x hx => ?_)
    have hs : (L.length : Int) = n ∧ ∀ s ∈ L, 0 ≤ s ∧ s < k := by simpa [statesB, List.all_eq_true] using sl
    obtain ⟨s, hs1, rfl⟩ := List.mem_map.1 hx
    have := hs.2 s hs1
    have : s.toNat = 0 ∨ s.toNat = 1 ∨ s.toNat = 2 ∨ s.toNat = 3 := by omega
    rcases this with e | e | e | e <;> rw [e] <;> decide
  have hk1 : ¬ (k : Int) < 1 := by omega
  have hk5 : ¬ (4 : Int) < (k : Int) := by omega
  have hjl : J.length + 1 = n := by simp only [treeB, Bool.and_eq_true, decide_eq_true_eq] at ht; omega
  simp only [↓SP, SQ, SG, SL, ↓reduceIte, undef, iop, isShift, Nat.reduceEqDiff, reduceCtorEq, Nat.reduceAdd, Nat.reduceMul, Nat.reduceSub, Nat.reduceLT, Nat.reduceLeDiff, Int.reduceLT, Int.reduceLE, Int.reduceEq, Int.reduceGT, Int.reduceGE, Int.reduceNeg, Int.reduceToNat, ne_eq, if_true, if_false, List.map_cons, List.map_nil, Nat.le_refl, SM, r20_0, r20_1]
  refine (tree_spec kk hJ).imp ?_
  rintro v g ⟨rfl, m0⟩
  simp only [↓SP, SQ, SG, SL, ↓reduceIte, undef, iop, isShift, Nat.reduceEqDiff, reduceCtorEq, Nat.reduceAdd, Nat.reduceMul, Nat.reduceSub, Nat.reduceLT, Nat.reduceLeDiff, Int.reduceLT, Int.reduceLE, Int.reduceEq, Int.reduceGT, Int.reduceGE, Int.reduceNeg, Int.reduceToNat, ne_eq, if_true, if_false, List.map_cons, List.map_nil, Nat.le_refl, SM, r20_3,  ht, hk1, hk5]
  refine (pstates_spec m0.2 (hL.ext m0.1 kk)).imp ?_
  rintro v g1 ⟨rfl, m1⟩
  have m01 := m0.trans m1
  simp only [↓SP, SQ, SG, SL, ↓reduceIte, undef, iop, isShift, Nat.reduceEqDiff, reduceCtorEq, Nat.reduceAdd, Nat.reduceMul, Nat.reduceSub, Nat.reduceLT, Nat.reduceLeDiff, Int.reduceLT, Int.reduceLE, Int.reduceEq, Int.reduceGT, Int.reduceGE, Int.reduceNeg, Int.reduceToNat, ne_eq, if_true, if_false, List.map_cons, List.map_nil, Nat.le_refl, SM, r20_5,  sl]
  refine (fitch_spec m1.2 n8 hk4.2 (hJ.ext m01.1 kk) ht (hL.ext m01.1 kk) sl).imp ?_
  rintro v g2 ⟨w, rfl, il, m2⟩
  have m02 := m01.trans m2
  obtain ⟨_, fl2, flc, _⟩ := fl
  generalize (fitchN (bitsOf L) 0 J).1 = S at *
  generalize (fitchN (bitsOf L) 0 J).2 = C at *
  have hcl : (castS S).length = S.length := by simp [castS]
  obtain ⟨v', hcut, rc, fc, _⟩ := Reads.cut il.ints il.fit (a := n) (b := (castS S).length) (by omega) (Nat.le_refl _)
  have rc2 : Ints g2 v' (castS (S.drop n)) := by
    have e1 : castS (S.drop n) = (castS S).drop n := by simp [castS, List.map_drop]
    rw [e1]
    unfold Ints
    have e2 : (((castS S).map (Value.int .i64)).drop (n * 1)).take (((castS S).length - n) * 1) = ((castS S).drop n).map (Value.int .i64) := by
      rw [Nat.mul_one, Nat.mul_one, List.map_drop, List.take_of_length_le (by simp)]
    rw [e2] at rc
    rw [List.length_drop]; exact rc
  have hlen' := rc2.len
  have hdl : (castS (S.drop n)).length = J.length := by simp [castS]; omega
  rw [hdl] at hlen'
  have hwl : lenA w = some S.length := by have := il.ints.len; rwa [hcl] at this
  have hcut' : ∀ ρ : Nat → Value, ρ 44 = .int .i64 n → sliceA 1 w (some (.tmp 44)) none none ρ = some v' := fun ρ hr => hcut _ _ _ (bnd_tmp hr) rfl
  simp only [↓SP, SQ, SG, SL, ↓reduceIte, undef, iop, isShift, Nat.reduceEqDiff, reduceCtorEq, Nat.reduceAdd, Nat.reduceMul, Nat.reduceSub, Nat.reduceLT, Nat.reduceLeDiff, Int.reduceLT, Int.reduceLE, Int.reduceEq, Int.reduceGT, Int.reduceGE, Int.reduceNeg, Int.reduceToNat, ne_eq, if_true, if_false, List.map_cons, List.map_nil, Nat.le_refl, SM, r20_5, r20_6, r20_7,  List.getElem?_toArray, hcut', hlen']
  refine wp_loopK Call.mono (fun q ρ g => Ok g ∧ Ext g2 g ∧ ∃ (i : Nat) (u : Value), ρ 13 = u ∧ ρ 47 = .int .i64 i ∧ i + q = J.length ∧ OL eInts g2 g u (((S.drop n).take i).map (bitList k))) ?_ (m := J.length) ⟨m2.2, .refl _, 0, _, rfl, rfl, by omega, OL.nil _ _ _⟩
  rintro q ρ g3 ⟨k3, x3, i, u, q13, q47, hq, ol⟩ keep
  have ρ_2 : ρ 2 = .int .i64 k := by rw [keep 2 (of_decide_eq_true rfl)]; first | rfl | assumption
  have ρ_12 : ρ 12 = .int .i64 C := by rw [keep 12 (of_decide_eq_true rfl)]; first | rfl | assumption
  have ρ_45 : ρ 45 = v' := by rw [keep 45 (of_decide_eq_true rfl)]; first | rfl | assumption
  have ρ_46 : ρ 46 = .int .i64 J.length := by rw [keep 46 (of_decide_eq_true rfl)]; first | rfl | assumption
  unfold b20_2
  have hSl : (S.drop n).length = J.length := by rw [List.length_drop]; omega
  by_cases hi : i < J.length
  rotate_left
  · have : i = J.length := by omega
    subst this
    rw [List.take_of_length_le (by omega)] at ol
    simp only [↓SP, SQ, SG, SL, ↓reduceIte, undef, iop, isShift, Nat.reduceEqDiff, reduceCtorEq, Nat.reduceAdd, Nat.reduceMul, Nat.reduceSub, Nat.reduceLT, Nat.reduceLeDiff, Int.reduceLT, Int.reduceLE, Int.reduceEq, Int.reduceGT, Int.reduceGE, Int.reduceNeg, Int.reduceToNat, ne_eq, if_true, if_false, List.map_cons, List.map_nil, Nat.le_refl, SM, oneOrTuple_three, r20_8, r20_19,  ρ_12, ρ_45, ρ_46, q13, q47, Nat.lt_irrefl]
    exact ⟨⟨_, rfl, ol.elder m02.1.next⟩, m02.1.trans x3⟩
  obtain ⟨p, a1, a2⟩ := castS_row (rc2.ext x3 m2.2) (i := i) (by omega)
  have hs16 : (S.drop n).getD i 0 < 16 := small_get (fun x hx => hsm x (List.mem_of_mem_drop hx)) i
  have hnx : ((S.drop n).take (i + 1)).map (bitList k) = ((S.drop n).take i).map (bitList k) ++ [bitList k ((S.drop n).getD i 0)] := by
    rw [List.take_succ_eq_append_getElem (by omega), List.map_append, getD_in (by omega)]; rfl
  generalize (S.drop n).getD i 0 = X at *
  simp only [↓SP, SQ, SG, SL, ↓reduceIte, undef, iop, isShift, Nat.reduceEqDiff, reduceCtorEq, Nat.reduceAdd, Nat.reduceMul, Nat.reduceSub, Nat.reduceLT, Nat.reduceLeDiff, Int.reduceLT, Int.reduceLE, Int.reduceEq, Int.reduceGT, Int.reduceGE, Int.reduceNeg, Int.reduceToNat, ne_eq, if_true, if_false, List.map_cons, List.map_nil, Nat.le_refl, SM, r20_8, r20_9, r20_10, r20_11,  ρ_2, ρ_45, ρ_46, q13, q47, hi, a1, a2]
  refine wp_doneK Call.mono (bitLoop (g0 := g3) k3 (.refl _) hs16 hk4.2 (Own.nil _ _ _) rfl rfl rfl rfl) ?_
  rintro e ρ4 g4 ⟨rfl, k4, x4, r4⟩ keep4
  have k13 := (keep4 13 (of_decide_eq_true rfl)).trans q13
  have k47 := (keep4 47 (of_decide_eq_true rfl)).trans q47
  have hws : IntKind.wrap .i64 ((i : Int) + 1) = ((i + 1 : Nat) : Int) := by rw [wrap_in] <;> omega
  generalize hw16 : ρ4 16 = w16 at *
  have fc := r4.fit.cell
  obtain ⟨v5, g5, e5, ol5, ext5, k5, _⟩ := OL.push k4 (Nat.le_trans x3.next x4.next) (ol.step x4 k3) (eInts_mk r4.ints r4.fit) (fun y hy z hz hp => by
    have h1 := ol.gblk_lt k3 hp
    simp only [List.mem_singleton] at hy
    subst hy
    have h2 := Own.blk r4 hz
    omega) (bytes := 24) (by simp; omega) (by simp; omega)
  simp only [rowOf_eq] at e5
  simp only [↓SP, SQ, SG, SL, ↓reduceIte, undef, iop, isShift, Nat.reduceEqDiff, reduceCtorEq, Nat.reduceAdd, Nat.reduceMul, Nat.reduceSub, Nat.reduceLT, Nat.reduceLeDiff, Int.reduceLT, Int.reduceLE, Int.reduceEq, Int.reduceGT, Int.reduceGE, Int.reduceNeg, Int.reduceToNat, ne_eq, if_true, if_false, List.map_cons, List.map_nil, Nat.le_refl, SM, r20_17, r20_18,  k13, k47, hw16, fc, e5, hws]
  exact ⟨q - 1, by omega, k5, ext5 g2 (x3.trans x4) (Nat.le_refl _), i + 1, _, rfl, rfl, by omega, by rw [hnx]; exact ol5⟩

set_option maxHeartbeats 1000000 in
theorem unit_spec {h : Heap} (kk : Ok h) {k : Nat} (hk : 1 ≤ k ∧ k ≤ 4) : Call T1 21 [.int .i64 k] h (fun v h' => OF h h' v k unitF ∧ More h h') := by
  refine (Call.more kk (R := fun v h' => OF h h' v k unitF) ?_).imp (fun v h' ⟨a, b⟩ => ⟨a, b⟩)
  refine Call.of (fn := f21) rfl (by simp [f21]) ?_
  unfold f21
  obtain ⟨xa, ka⟩ := ext_alloc0 kk
  have e1 := fun rows => OM.empty h (h.alloc { cells := [], esz := 0 }) h.next rows
  simp only [↓SP, SQ, SG, SL, ↓reduceIte, undef, iop, isShift, Nat.reduceEqDiff, reduceCtorEq, Nat.reduceAdd, Nat.reduceMul, Nat.reduceSub, Nat.reduceLT, Nat.reduceLeDiff, Int.reduceLT, Int.reduceLE, Int.reduceEq, Int.reduceGT, Int.reduceGE, Int.reduceNeg, Int.reduceToNat, ne_eq, if_true, if_false, List.map_cons, List.map_nil, Nat.le_refl, SM, r21_0, r21_1, r21_2]
  generalize h.alloc { cells := [], esz := 0 } = g at *
  refine wp_loopK Call.mono (fun q ρ g' => Ok g' ∧ Ext h g' ∧ ∃ (a : Nat) (u : Value), ρ 3 = u ∧ ρ 4 = .int .i64 a ∧ a + q = k ∧ OM h g' u a (rowF k unitF)) ?_ (m := k) ⟨ka, xa, 0, _, rfl, rfl, by omega, e1 _⟩
  rintro q ρ1 g' ⟨kg', xg', a, u, q3, q4, hq, r⟩ keep
  have ρ1_0 : ρ1 0 = .int .i64 k := by rw [keep 0 (of_decide_eq_true rfl)]; first | rfl | assumption
  unfold b21_2
  by_cases ha : a < k
  rotate_left
  · have : a = k := by omega
    subst this
    simp only [↓SP, SQ, SG, SL, ↓reduceIte, undef, iop, isShift, Nat.reduceEqDiff, reduceCtorEq, Nat.reduceAdd, Nat.reduceMul, Nat.reduceSub, Nat.reduceLT, Nat.reduceLeDiff, Int.reduceLT, Int.reduceLE, Int.reduceEq, Int.reduceGT, Int.reduceGE, Int.reduceNeg, Int.reduceToNat, ne_eq, if_true, if_false, List.map_cons, List.map_nil, Nat.le_refl, SM, r21_3, r21_13,  ρ1_0, q3, q4, Nat.lt_irrefl]
    exact ⟨r, xg'⟩
  obtain ⟨x4, k4⟩ := ext_alloc0 kg'
  simp only [↓SP, SQ, SG, SL, ↓reduceIte, undef, iop, isShift, Nat.reduceEqDiff, reduceCtorEq, Nat.reduceAdd, Nat.reduceMul, Nat.reduceSub, Nat.reduceLT, Nat.reduceLeDiff, Int.reduceLT, Int.reduceLE, Int.reduceEq, Int.reduceGT, Int.reduceGE, Int.reduceNeg, Int.reduceToNat, ne_eq, if_true, if_false, List.map_cons, List.map_nil, Nat.le_refl, SM, r21_3, r21_5, r21_6,  ρ1_0, q3, q4, ha]
  refine wp_doneK Call.mono (R := fun e ρ g2 => e = .exit 2 ∧ Ok g2 ∧ Ext g' g2 ∧ IL g' g2 (ρ 5) (rowF k unitF a)) (wp_loopK Call.mono (fun q ρ g2 => Ok g2 ∧ Ext g' g2 ∧ ∃ (d : Nat) (w : Value), ρ 5 = w ∧ ρ 6 = .int .i64 d ∧ d + q = k ∧ IL g' g2 w ((List.range d).map (unitF a))) ?_ (m := k) ⟨k4, x4, 0, _, rfl, rfl, by omega, IL.empty _ _ _⟩) ?_
  · rintro q' ρ2 g2 ⟨kg2, xg2, d, w, q5, q6, hq', r2⟩ keep'
    have ρ2_0 : ρ2 0 = .int .i64 k := by rw [keep' 0 (of_decide_eq_true rfl)]; exact ρ1_0
    have ρ2_4 : ρ2 4 = .int .i64 a := by rw [keep' 4 (of_decide_eq_true rfl)]; exact q4
    unfold b21_1
    by_cases hd : d < k
    rotate_left
    · have : d = k := by omega
      subst this
      simp only [↓SP, SQ, SG, SL, ↓reduceIte, undef, iop, isShift, Nat.reduceEqDiff, reduceCtorEq, Nat.reduceAdd, Nat.reduceMul, Nat.reduceSub, Nat.reduceLT, Nat.reduceLeDiff, Int.reduceLT, Int.reduceLE, Int.reduceEq, Int.reduceGT, Int.reduceGE, Int.reduceNeg, Int.reduceToNat, ne_eq, if_true, if_false, List.map_cons, List.map_nil, Nat.le_refl, SM, r21_7,  ρ2_0, q5, q6, Nat.lt_irrefl]
      exact ⟨kg2, xg2, r2⟩
    have hws : IntKind.wrap .i64 ((d : Int) + 1) = ((d + 1 : Nat) : Int) := by rw [wrap_in] <;> omega
    have hnext := rowF_take k unitF a d
    obtain ⟨v', g3, e, o, x3, k3, ov⟩ := r2.push xg2 kg2 (by simp; omega) (unitF a d)
    rw [← hnext] at o
    by_cases he : a = d
    · have hu : unitF a d = 0 := if_pos he
      rw [hu] at e
      subst he
      simp only [↓SP, SQ, SG, SL, ↓reduceIte, undef, iop, isShift, Nat.reduceEqDiff, reduceCtorEq, Nat.reduceAdd, Nat.reduceMul, Nat.reduceSub, Nat.reduceLT, Nat.reduceLeDiff, Int.reduceLT, Int.reduceLE, Int.reduceEq, Int.reduceGT, Int.reduceGE, Int.reduceNeg, Int.reduceToNat, ne_eq, if_true, if_false, List.map_cons, List.map_nil, Nat.le_refl, SM, r21_7, r21_8, r21_9, r21_10,  ρ2_0, ρ2_4, q5, q6, hd, e, hws]
      exact ⟨q' - 1, by omega, k3, x3, a + 1, _, rfl, rfl, by omega, o.elder xg2.next⟩
    · have hu : unitF a d = 1 := if_neg he
      rw [hu] at e
      have he' : ¬ (a : Int) = (d : Int) := by omega
      simp only [↓SP, SQ, SG, SL, ↓reduceIte, undef, iop, isShift, Nat.reduceEqDiff, reduceCtorEq, Nat.reduceAdd, Nat.reduceMul, Nat.reduceSub, Nat.reduceLT, Nat.reduceLeDiff, Int.reduceLT, Int.reduceLE, Int.reduceEq, Int.reduceGT, Int.reduceGE, Int.reduceNeg, Int.reduceToNat, ne_eq, if_true, if_false, List.map_cons, List.map_nil, Nat.le_refl, SM, r21_7, r21_8, r21_9, r21_11,  ρ2_0, ρ2_4, q5, q6, hd, he', e, hws]
      exact ⟨q' - 1, by omega, k3, x3, d + 1, _, rfl, rfl, by omega, o.elder xg2.next⟩
  rintro e ρ4 g4 ⟨rfl, kg4, xg4, r4⟩ keep4
  have k3 := (keep4 3 (of_decide_eq_true rfl)).trans q3
  have k4' := (keep4 4 (of_decide_eq_true rfl)).trans q4
  have hws : IntKind.wrap .i64 ((a : Int) + 1) = ((a + 1 : Nat) : Int) := by rw [wrap_in] <;> omega
  obtain ⟨v5, g5, e5, r5, x5, k5, ov5⟩ := r.push kg' xg' xg4 kg4 r4 (by intro e; have := congrArg List.length e; simp [rowF_length] at this; omega) (by omega)
  have fc := r4.fit.cell
  generalize hw5 : ρ4 5 = w5 at *
  simp only [↓SP, SQ, SG, SL, ↓reduceIte, undef, iop, isShift, Nat.reduceEqDiff, reduceCtorEq, Nat.reduceAdd, Nat.reduceMul, Nat.reduceSub, Nat.reduceLT, Nat.reduceLeDiff, Int.reduceLT, Int.reduceLE, Int.reduceEq, Int.reduceGT, Int.reduceGE, Int.reduceNeg, Int.reduceToNat, ne_eq, if_true, if_false, List.map_cons, List.map_nil, Nat.le_refl, SM, r21_4, r21_12,  k3, k4', hw5, fc, e5, hws]
  refine ⟨q - 1, by omega, k5, x5, a + 1, _, rfl, rfl, by omega, OM.congr (fun i hi => ?_) r5⟩
  by_cases e : i = a
  · rw [if_pos e, e]
  · rw [if_neg e]

end Go.AM.K
