/- Track: Least and Ways. -/
import Derived.Test.YtkhhdemhlbaboaaAMS
import Derived.Test.YtkhhdemhlbaboaaK7
import Derived.Test.YtkhhdemhlbaboaaTP2
set_option linter.unusedVariables false
set_option linter.unusedSimpArgs false
set_option maxRecDepth 20000
namespace Go.AM.K
open Go.AM Go.AM.Fn Go.AM.TP
attribute [local congr] ite_cond

theorem leastN_bound {k : Nat} {t : Tab} (f : Fine k t) (hk4 : k ≤ 4) (hw : ∀ i, i < k → t.2.getD i 0 ≠ 0) {s : Nat} (hs : s ≤ k) : -1 ≤ (leastN t s).1 ∧ (leastN t s).1 ≤ far ∧ 0 ≤ (leastN t s).2 ∧ (leastN t s).2 ≤ 1073741824 := by
  by_cases h0 : s = 0
  · subst h0; simp only [leastN]; decide
  · rw [least_below f hw s hs (by omega)]
    have hb := below_wt f (by decide) (by decide) (by decide) (row := zeros k) (fun i _ => by rw [zeros_get]; omega) s hs
    rcases hb with ⟨e, _⟩ | hb
    · rw [e]; decide
    · have : (s : Int) * 268435456 ≤ 4 * 268435456 := Int.mul_le_mul_of_nonneg_right (by omega) (by decide)
      unfold far; omega

set_option maxHeartbeats 2000000 in
theorem pleast_spec {h : Heap} (kk : Ok h) {p : Value} {n : Nat} {k : Nat} {js : List (Int × Int)} {costs : List (List Int)} {leaves : List Int} (P : Prob h p n k js costs leaves) (hn : n ≤ 8) (ht : treeB n js = true) (hc : costsB costs = true) (hk : costs.length = k) (hl : statesB n k leaves = true)
    {f : Value} {fx : List Int} (hf : Ints h f fx) (hfl : js.length ≤ fx.length) (hfx : ∀ i, i < js.length → fx.getD i 0 < 0) :
    Call T1 37 [p, f] h (fun v h' => v = .tuple #[.int .i64 (answer k costs leaves js).1, .int .i64 (answer k costs leaves js).2] ∧ More h h') := by
  refine Call.more kk ?_
  refine Call.of (fn := f37) rfl (by simp [f37]) ?_
  unfold f37
  have hk4 : 1 ≤ k ∧ k ≤ 4 := by simp only [costsB, Bool.and_eq_true, decide_eq_true_eq] at hc; omega
  simp only [↓SP, SQ, SG, SL, ↓reduceIte, undef, iop, isShift, Nat.reduceEqDiff, reduceCtorEq, Nat.reduceAdd, Nat.reduceMul, Nat.reduceSub, Nat.reduceLT, Nat.reduceLeDiff, Int.reduceLT, Int.reduceLE, Int.reduceEq, Int.reduceGT, Int.reduceGE, Int.reduceNeg, Int.reduceToNat, ne_eq, if_true, if_false, List.map_cons, List.map_nil, Nat.le_refl, SM, r37_0, r37_1]
  refine (sankoff_spec kk P hn ht hc hk hl hf hfl hfx).imp ?_
  rintro v g ⟨ol, mo⟩
  obtain ⟨t, t1, ft, hw, ea⟩ := root_of hn hc hk hl ht
  rw [ea]
  have rl := ol.reads
  have hlen := rl.len
  have hsm := rl.small
  generalize tabs k costs leaves js = ts at *
  have hne : ts ≠ [] := fun e => by rw [e] at t1; cases t1
  have hpos : 0 < ts.length := List.length_pos_iff.2 hne
  have hlast : ts[ts.length - 1]'(by omega) = t := by
    rw [List.getLast?_eq_getElem?, List.getElem?_eq_getElem (by omega)] at t1; simpa using t1
  obtain ⟨b, o, u, i1, _, l1, v1, w1, rfl, ⟨n1, _, o1, c1⟩, n3, _, o2, c2⟩ := rl.elem (i := ts.length - 1) (by omega)
  rw [hlast] at n1 n3
  have hw1 : IntKind.wrap .i64 ((ts.length : Int) - 1) = ((ts.length - 1 : Nat) : Int) := by rw [wrap_in] <;> omega
  have hgn := mo.2.le
  have x2 : Ext g ((g.alloc { cells := [.slice none 0 0, .slice none 0 0], esz := 0 }).put g.next { cells := [v1, w1], esz := 0 }) := (Ext.alloc _ _).put (Nat.le_refl _) _
  obtain ⟨_, k2, gz⟩ := ext_put_new (.refl g) mo.2 (o := { cells := [.slice none 0 0, .slice none 0 0], esz := 0 }) (o' := { cells := [v1, w1], esz := 0 })
  have hlen1 := n1.len
  simp only [↓SP, SQ, SG, SL, ↓reduceIte, undef, iop, isShift, Nat.reduceEqDiff, reduceCtorEq, Nat.reduceAdd, Nat.reduceMul, Nat.reduceSub, Nat.reduceLT, Nat.reduceLeDiff, Int.reduceLT, Int.reduceLE, Int.reduceEq, Int.reduceGT, Int.reduceGE, Int.reduceNeg, Int.reduceToNat, ne_eq, if_true, if_false, List.map_cons, List.map_nil, Nat.le_refl, SM, r37_2,  hlen, hw1, i1, l1, hgn, o1, o2, List.size_toArray]
  have m1 := n1.ext x2 mo.2
  have m3 := n3.ext x2 mo.2
  have hb2 : ((g.alloc { cells := [.slice none 0 0, .slice none 0 0], esz := 0 }).put g.next { cells := [v1, w1], esz := 0 }).base ≤ g.next := hgn
  generalize ((g.alloc { cells := [.slice none 0 0, .slice none 0 0], esz := 0 }).put g.next { cells := [v1, w1], esz := 0 }) = g2 at *
  rw [ft.len1] at hlen1
  simp only [↓SP, SQ, SG, SL, ↓reduceIte, undef, iop, isShift, Nat.reduceEqDiff, reduceCtorEq, Nat.reduceAdd, Nat.reduceMul, Nat.reduceSub, Nat.reduceLT, Nat.reduceLeDiff, Int.reduceLT, Int.reduceLE, Int.reduceEq, Int.reduceGT, Int.reduceGE, Int.reduceNeg, Int.reduceToNat, ne_eq, if_true, if_false, List.map_cons, List.map_nil, Nat.le_refl, SM, r37_3, r37_4,  gz, hb2, hlen1]
  refine wp_loopK Call.mono (fun q ρ g' => g' = g2 ∧ ∃ i : Nat, ρ 24 = .int .i64 i ∧ i + q = k ∧ ρ 8 = .int .i64 (leastN t i).1 ∧ ρ 9 = .int .i64 (leastN t i).2) ?_ (m := k) ⟨rfl, 0, rfl, by omega, rfl, rfl⟩
  rintro q ρ g' ⟨rfl, i, q24, hq, q8, q9⟩ keep
  have ρ_7 : ρ 7 = .pointer (some ⟨g.next, 0, none⟩) := by rw [keep 7 (of_decide_eq_true rfl)]; first | rfl | assumption
  have ρ_22 : ρ 22 = v1 := by rw [keep 22 (of_decide_eq_true rfl)]; first | rfl | assumption
  have ρ_23 : ρ 23 = .int .i64 k := by rw [keep 23 (of_decide_eq_true rfl)]; first | rfl | assumption
  unfold b37_1
  by_cases hi : i < k
  rotate_left
  · have hik : i = k := by omega
    subst hik
    simp only [↓SP, SQ, SG, SL, ↓reduceIte, undef, iop, isShift, Nat.reduceEqDiff, reduceCtorEq, Nat.reduceAdd, Nat.reduceMul, Nat.reduceSub, Nat.reduceLT, Nat.reduceLeDiff, Int.reduceLT, Int.reduceLE, Int.reduceEq, Int.reduceGT, Int.reduceGE, Int.reduceNeg, Int.reduceToNat, ne_eq, if_true, if_false, List.map_cons, List.map_nil, Nat.le_refl, SM, r37_5, r37_13,  ρ_7, ρ_22, ρ_23, q24, q8, q9, Nat.lt_irrefl]
    rw [least_below ft hw i (Nat.le_refl _) (by omega)]
    exact ⟨rfl, mo.1.trans x2⟩
  have hi1 : i < t.1.length := by rw [ft.len1]; exact hi
  have hi2 : i < t.2.length := by rw [ft.len2]; exact hi
  obtain ⟨a1, e1, e2⟩ := m1.row hi1
  obtain ⟨a2, e3, e4⟩ := m3.row hi2
  have c1' : t.1.getD i 0 = t.1[i] := getD_in hi1 _
  have c2' : t.2.getD i 0 = t.2[i] := getD_in hi2 _
  have hcell := fine_cell ft hi
  have hwi := hw i hi
  rw [c1', c2'] at hcell
  rw [c2'] at hwi
  have hws : IntKind.wrap .i64 ((i : Int) + 1) = ((i + 1 : Nat) : Int) := by rw [wrap_in] <;> omega
  have hbd := leastN_bound ft hk4.2 hw (Nat.le_of_lt hi)
  have hnext : leastN t (i + 1) = if (leastN t i).1 < 0 ∨ t.1[i] < (leastN t i).1 then (t.1[i], t.2[i]) else if t.1[i] = (leastN t i).1 then ((leastN t i).1, (leastN t i).2 + t.2[i]) else leastN t i := by rw [leastN, c1', c2', if_neg hwi]
  have hw2 : IntKind.wrap .i64 ((leastN t i).2 + t.2[i]) = (leastN t i).2 + t.2[i] := by rw [wrap_in] <;> omega
  by_cases d1 : (leastN t i).1 < 0
  · rw [if_pos (.inl d1)] at hnext
    simp only [↓SP, SQ, SG, SL, ↓reduceIte, undef, iop, isShift, Nat.reduceEqDiff, reduceCtorEq, Nat.reduceAdd, Nat.reduceMul, Nat.reduceSub, Nat.reduceLT, Nat.reduceLeDiff, Int.reduceLT, Int.reduceLE, Int.reduceEq, Int.reduceGT, Int.reduceGE, Int.reduceNeg, Int.reduceToNat, ne_eq, if_true, if_false, List.map_cons, List.map_nil, Nat.le_refl, SM, r37_5, r37_6, r37_7, r37_8, r37_9, r37_12,  ρ_7, ρ_22, ρ_23, q24, q8, q9, hi, gz, hb2, e1, e2, e3, e4, hwi, d1, hws]
    exact ⟨q - 1, by omega, i + 1, rfl, by omega, by rw [hnext], by rw [hnext]⟩
  by_cases d2 : t.1[i] < (leastN t i).1
  · rw [if_pos (.inr d2)] at hnext
    simp only [↓SP, SQ, SG, SL, ↓reduceIte, undef, iop, isShift, Nat.reduceEqDiff, reduceCtorEq, Nat.reduceAdd, Nat.reduceMul, Nat.reduceSub, Nat.reduceLT, Nat.reduceLeDiff, Int.reduceLT, Int.reduceLE, Int.reduceEq, Int.reduceGT, Int.reduceGE, Int.reduceNeg, Int.reduceToNat, ne_eq, if_true, if_false, List.map_cons, List.map_nil, Nat.le_refl, SM, r37_5, r37_6, r37_7, r37_8, r37_9, r37_12,  ρ_7, ρ_22, ρ_23, q24, q8, q9, hi, gz, hb2, e1, e2, e3, e4, hwi, d1, d2, hws]
    exact ⟨q - 1, by omega, i + 1, rfl, by omega, by rw [hnext], by rw [hnext]⟩
  rw [if_neg (by omega)] at hnext
  by_cases d3 : t.1[i] = (leastN t i).1
  · rw [if_pos d3] at hnext
    simp only [↓SP, SQ, SG, SL, ↓reduceIte, undef, iop, isShift, Nat.reduceEqDiff, reduceCtorEq, Nat.reduceAdd, Nat.reduceMul, Nat.reduceSub, Nat.reduceLT, Nat.reduceLeDiff, Int.reduceLT, Int.reduceLE, Int.reduceEq, Int.reduceGT, Int.reduceGE, Int.reduceNeg, Int.reduceToNat, ne_eq, if_true, if_false, List.map_cons, List.map_nil, Nat.le_refl, SM, r37_5, r37_6, r37_7, r37_8, r37_10, r37_11, r37_12,  ρ_7, ρ_22, ρ_23, q24, q8, q9, hi, gz, hb2, e1, e2, e3, e4, hwi, d1, d2, d3, Int.lt_irrefl, hws, hw2]
    exact ⟨q - 1, by omega, i + 1, rfl, by omega, by rw [hnext], by rw [hnext]⟩
  · rw [if_neg d3] at hnext
    simp only [↓SP, SQ, SG, SL, ↓reduceIte, undef, iop, isShift, Nat.reduceEqDiff, reduceCtorEq, Nat.reduceAdd, Nat.reduceMul, Nat.reduceSub, Nat.reduceLT, Nat.reduceLeDiff, Int.reduceLT, Int.reduceLE, Int.reduceEq, Int.reduceGT, Int.reduceGE, Int.reduceNeg, Int.reduceToNat, ne_eq, if_true, if_false, List.map_cons, List.map_nil, Nat.le_refl, SM, r37_5, r37_6, r37_7, r37_8, r37_10, r37_12,  ρ_7, ρ_22, ρ_23, q24, q8, q9, hi, gz, hb2, e1, e2, e3, e4, hwi, d1, d2, d3, hws]
    exact ⟨q - 1, by omega, i + 1, rfl, by omega, by rw [hnext], by rw [hnext]⟩

/-- What Least and Ways return. -/
def leastR (n : Int) (js : List (Int × Int)) (costs : List (List Int)) (leaves : List Int) : Int := if whyB n js costs leaves = 0 then (answer costs.length costs leaves js).1 else 0
def waysR (n : Int) (js : List (Int × Int)) (costs : List (List Int)) (leaves : List Int) : Int := if whyB n js costs leaves = 0 then (answer costs.length costs leaves js).2 else 0

theorem why_zero {n : Int} {js : List (Int × Int)} {costs : List (List Int)} {leaves : List Int} (h : whyB n js costs leaves = 0) : treeB n js = true ∧ costsB costs = true ∧ statesB n costs.length leaves = true := by
  unfold whyB at h
  by_cases h1 : treeB n js = true ∧ costsB costs = true
  · rw [if_pos h1] at h
    by_cases h2 : statesB n costs.length leaves = true
    · exact ⟨h1.1, h1.2, h2⟩
    · rw [if_neg h2] at h; cases h
  · rw [if_neg h1] at h; cases h

theorem fixed_neg (n j : Nat) (h : j < n) : (List.replicate n (-1 : Int)).getD j 0 < 0 := by simp [List.getD, h]

theorem least_spec {h : Heap} (kk : Ok h) {n : Int} {j c l : Value} {js : List (Int × Int)} {costs : List (List Int)} {leaves : List Int} (hj : Pairs h j js) (hc : Mat h c costs) (hfc : Fit c) (hfj : Fit j) (hfl : Fit l) (hl : Ints h l leaves) :
    Call T1 13 [.int .i64 n, j, c, l] h (fun v h' => v = .tuple #[.int .i64 (leastR n js costs leaves), .int .i64 (whyB n js costs leaves)] ∧ More h h') := by
  refine Call.more kk ?_
  refine Call.of (fn := f13) rfl (by simp [f13]) ?_
  unfold f13
  simp only [↓SP, SQ, SG, SL, ↓reduceIte, undef, iop, isShift, Nat.reduceEqDiff, reduceCtorEq, Nat.reduceAdd, Nat.reduceMul, Nat.reduceSub, Nat.reduceLT, Nat.reduceLeDiff, Int.reduceLT, Int.reduceLE, Int.reduceEq, Int.reduceGT, Int.reduceGE, Int.reduceNeg, Int.reduceToNat, ne_eq, if_true, if_false, List.map_cons, List.map_nil, Nat.le_refl, SM, r13_0, r13_1]
  refine (read_spec kk hj hc hfc hfj hfl hl).imp ?_
  rintro v g ⟨p, rfl, hp, mo⟩
  by_cases d : whyB n js costs leaves = 0
  · have hz := why_zero d
    have hn : 2 ≤ n ∧ n ≤ 8 ∧ (js.length : Int) = n - 1 := by have := hz.1; simp only [treeB, Bool.and_eq_true, decide_eq_true_eq] at this; exact this.1
    obtain ⟨m, rfl⟩ : ∃ m : Nat, n = m := ⟨n.toNat, by omega⟩
    have P := hp d
    rw [leastR, if_pos d, d]
    simp only [↓SP, SQ, SG, SL, ↓reduceIte, undef, iop, isShift, Nat.reduceEqDiff, reduceCtorEq, Nat.reduceAdd, Nat.reduceMul, Nat.reduceSub, Nat.reduceLT, Nat.reduceLeDiff, Int.reduceLT, Int.reduceLE, Int.reduceEq, Int.reduceGT, Int.reduceGE, Int.reduceNeg, Int.reduceToNat, ne_eq, if_true, if_false, List.map_cons, List.map_nil, Nat.le_refl, SM, r13_2, r13_4,  d]
    refine (free_spec mo.2 P ⟨hn.1, hn.2.1⟩).imp ?_
    rintro f g2 ⟨own, m2⟩
    have hi := own.ints
    simp only [↓SP, SQ, SG, SL, ↓reduceIte, undef, iop, isShift, Nat.reduceEqDiff, reduceCtorEq, Nat.reduceAdd, Nat.reduceMul, Nat.reduceSub, Nat.reduceLT, Nat.reduceLeDiff, Int.reduceLT, Int.reduceLE, Int.reduceEq, Int.reduceGT, Int.reduceGE, Int.reduceNeg, Int.reduceToNat, ne_eq, if_true, if_false, List.map_cons, List.map_nil, Nat.le_refl, SM]
    refine (pleast_spec m2.2 (P.ext m2.1 mo.2) (by omega) hz.1 hz.2.1 rfl hz.2.2 hi.1 (by simp; omega) (fun i hi => fixed_neg _ _ (by omega))).imp ?_
    rintro v g3 ⟨rfl, m3⟩
    simp only [↓SP, SQ, SG, SL, ↓reduceIte, undef, iop, isShift, Nat.reduceEqDiff, reduceCtorEq, Nat.reduceAdd, Nat.reduceMul, Nat.reduceSub, Nat.reduceLT, Nat.reduceLeDiff, Int.reduceLT, Int.reduceLE, Int.reduceEq, Int.reduceGT, Int.reduceGE, Int.reduceNeg, Int.reduceToNat, ne_eq, if_true, if_false, List.map_cons, List.map_nil, Nat.le_refl, SM, r13_5,  List.getElem?_toArray]
    exact (mo.1.trans m2.1).trans m3.1
  · rw [leastR, if_neg d]
    simp only [↓SP, SQ, SG, SL, ↓reduceIte, undef, iop, isShift, Nat.reduceEqDiff, reduceCtorEq, Nat.reduceAdd, Nat.reduceMul, Nat.reduceSub, Nat.reduceLT, Nat.reduceLeDiff, Int.reduceLT, Int.reduceLE, Int.reduceEq, Int.reduceGT, Int.reduceGE, Int.reduceNeg, Int.reduceToNat, ne_eq, if_true, if_false, List.map_cons, List.map_nil, Nat.le_refl, SM, r13_2, r13_3,  d]
    exact mo.1

theorem ways_spec {h : Heap} (kk : Ok h) {n : Int} {j c l : Value} {js : List (Int × Int)} {costs : List (List Int)} {leaves : List Int} (hj : Pairs h j js) (hc : Mat h c costs) (hfc : Fit c) (hfj : Fit j) (hfl : Fit l) (hl : Ints h l leaves) :
    Call T1 14 [.int .i64 n, j, c, l] h (fun v h' => v = .tuple #[.int .i64 (waysR n js costs leaves), .int .i64 (whyB n js costs leaves)] ∧ More h h') := by
  refine Call.more kk ?_
  refine Call.of (fn := f14) rfl (by simp [f14]) ?_
  unfold f14
  simp only [↓SP, SQ, SG, SL, ↓reduceIte, undef, iop, isShift, Nat.reduceEqDiff, reduceCtorEq, Nat.reduceAdd, Nat.reduceMul, Nat.reduceSub, Nat.reduceLT, Nat.reduceLeDiff, Int.reduceLT, Int.reduceLE, Int.reduceEq, Int.reduceGT, Int.reduceGE, Int.reduceNeg, Int.reduceToNat, ne_eq, if_true, if_false, List.map_cons, List.map_nil, Nat.le_refl, SM, r14_0, r14_1]
  refine (read_spec kk hj hc hfc hfj hfl hl).imp ?_
  rintro v g ⟨p, rfl, hp, mo⟩
  by_cases d : whyB n js costs leaves = 0
  · have hz := why_zero d
    have hn : 2 ≤ n ∧ n ≤ 8 ∧ (js.length : Int) = n - 1 := by have := hz.1; simp only [treeB, Bool.and_eq_true, decide_eq_true_eq] at this; exact this.1
    obtain ⟨m, rfl⟩ : ∃ m : Nat, n = m := ⟨n.toNat, by omega⟩
    have P := hp d
    rw [waysR, if_pos d, d]
    simp only [↓SP, SQ, SG, SL, ↓reduceIte, undef, iop, isShift, Nat.reduceEqDiff, reduceCtorEq, Nat.reduceAdd, Nat.reduceMul, Nat.reduceSub, Nat.reduceLT, Nat.reduceLeDiff, Int.reduceLT, Int.reduceLE, Int.reduceEq, Int.reduceGT, Int.reduceGE, Int.reduceNeg, Int.reduceToNat, ne_eq, if_true, if_false, List.map_cons, List.map_nil, Nat.le_refl, SM, r14_2, r14_4,  d]
    refine (free_spec mo.2 P ⟨hn.1, hn.2.1⟩).imp ?_
    rintro f g2 ⟨own, m2⟩
    have hi := own.ints
    simp only [↓SP, SQ, SG, SL, ↓reduceIte, undef, iop, isShift, Nat.reduceEqDiff, reduceCtorEq, Nat.reduceAdd, Nat.reduceMul, Nat.reduceSub, Nat.reduceLT, Nat.reduceLeDiff, Int.reduceLT, Int.reduceLE, Int.reduceEq, Int.reduceGT, Int.reduceGE, Int.reduceNeg, Int.reduceToNat, ne_eq, if_true, if_false, List.map_cons, List.map_nil, Nat.le_refl, SM]
    refine (pleast_spec m2.2 (P.ext m2.1 mo.2) (by omega) hz.1 hz.2.1 rfl hz.2.2 hi.1 (by simp; omega) (fun i hi => fixed_neg _ _ (by omega))).imp ?_
    rintro v g3 ⟨rfl, m3⟩
    simp only [↓SP, SQ, SG, SL, ↓reduceIte, undef, iop, isShift, Nat.reduceEqDiff, reduceCtorEq, Nat.reduceAdd, Nat.reduceMul, Nat.reduceSub, Nat.reduceLT, Nat.reduceLeDiff, Int.reduceLT, Int.reduceLE, Int.reduceEq, Int.reduceGT, Int.reduceGE, Int.reduceNeg, Int.reduceToNat, ne_eq, if_true, if_false, List.map_cons, List.map_nil, Nat.le_refl, SM, r14_5,  List.getElem?_toArray]
    exact (mo.1.trans m2.1).trans m3.1
  · rw [waysR, if_neg d]
    simp only [↓SP, SQ, SG, SL, ↓reduceIte, undef, iop, isShift, Nat.reduceEqDiff, reduceCtorEq, Nat.reduceAdd, Nat.reduceMul, Nat.reduceSub, Nat.reduceLT, Nat.reduceLeDiff, Int.reduceLT, Int.reduceLE, Int.reduceEq, Int.reduceGT, Int.reduceGE, Int.reduceNeg, Int.reduceToNat, ne_eq, if_true, if_false, List.map_cons, List.map_nil, Nat.le_refl, SM, r14_2, r14_3,  d]
    exact mo.1

theorem why_spec {h : Heap} (kk : Ok h) {n : Int} {j c l : Value} {js : List (Int × Int)} {costs : List (List Int)} {leaves : List Int} (hj : Pairs h j js) (hc : Mat h c costs) (hl : Ints h l leaves) :
    Call T1 15 [.int .i64 n, j, c, l] h (fun v h' => v = .int .i64 (whyB n js costs leaves) ∧ More h h') := by
  refine Call.more kk ?_
  refine Call.of (fn := f15) rfl (by simp [f15]) ?_
  unfold f15
  have hlen := hc.len
  have hsm := hc.small
  simp only [↓SP, SQ, SG, SL, ↓reduceIte, undef, iop, isShift, Nat.reduceEqDiff, reduceCtorEq, Nat.reduceAdd, Nat.reduceMul, Nat.reduceSub, Nat.reduceLT, Nat.reduceLeDiff, Int.reduceLT, Int.reduceLE, Int.reduceEq, Int.reduceGT, Int.reduceGE, Int.reduceNeg, Int.reduceToNat, ne_eq, if_true, if_false, List.map_cons, List.map_nil, Nat.le_refl, SM, r15_0, r15_1]
  refine (refTree_spec kk hj).imp ?_
  rintro v g ⟨rfl, mo⟩
  by_cases d1 : treeB n js = true
  rotate_left
  · rw [whyB, if_neg (fun x => d1 x.1)]
    simp only [↓SP, SQ, SG, SL, ↓reduceIte, undef, iop, isShift, Nat.reduceEqDiff, reduceCtorEq, Nat.reduceAdd, Nat.reduceMul, Nat.reduceSub, Nat.reduceLT, Nat.reduceLeDiff, Int.reduceLT, Int.reduceLE, Int.reduceEq, Int.reduceGT, Int.reduceGE, Int.reduceNeg, Int.reduceToNat, ne_eq, if_true, if_false, List.map_cons, List.map_nil, Nat.le_refl, SM, r15_2,  d1]
    exact mo.1
  simp only [↓SP, SQ, SG, SL, ↓reduceIte, undef, iop, isShift, Nat.reduceEqDiff, reduceCtorEq, Nat.reduceAdd, Nat.reduceMul, Nat.reduceSub, Nat.reduceLT, Nat.reduceLeDiff, Int.reduceLT, Int.reduceLE, Int.reduceEq, Int.reduceGT, Int.reduceGE, Int.reduceNeg, Int.reduceToNat, ne_eq, if_true, if_false, List.map_cons, List.map_nil, Nat.le_refl, SM, d1]
  refine (costs_spec (hc.ext mo.1 kk)).imp ?_
  rintro v g ⟨rfl, rfl⟩
  by_cases d2 : costsB costs = true
  rotate_left
  · rw [whyB, if_neg (fun x => d2 x.2)]
    simp only [↓SP, SQ, SG, SL, ↓reduceIte, undef, iop, isShift, Nat.reduceEqDiff, reduceCtorEq, Nat.reduceAdd, Nat.reduceMul, Nat.reduceSub, Nat.reduceLT, Nat.reduceLeDiff, Int.reduceLT, Int.reduceLE, Int.reduceEq, Int.reduceGT, Int.reduceGE, Int.reduceNeg, Int.reduceToNat, ne_eq, if_true, if_false, List.map_cons, List.map_nil, Nat.le_refl, SM, r15_2,  d2]
    exact mo.1
  simp only [↓SP, SQ, SG, SL, ↓reduceIte, undef, iop, isShift, Nat.reduceEqDiff, reduceCtorEq, Nat.reduceAdd, Nat.reduceMul, Nat.reduceSub, Nat.reduceLT, Nat.reduceLeDiff, Int.reduceLT, Int.reduceLE, Int.reduceEq, Int.reduceGT, Int.reduceGE, Int.reduceNeg, Int.reduceToNat, ne_eq, if_true, if_false, List.map_cons, List.map_nil, Nat.le_refl, SM, r15_3,  d2, hlen]
  refine (states_spec (hl.ext mo.1 kk) (by omega)).imp ?_
  rintro v g ⟨rfl, rfl⟩
  by_cases d3 : statesB n costs.length leaves = true
  · rw [whyB, if_pos ⟨d1, d2⟩, if_pos d3]
    simp only [↓SP, SQ, SG, SL, ↓reduceIte, undef, iop, isShift, Nat.reduceEqDiff, reduceCtorEq, Nat.reduceAdd, Nat.reduceMul, Nat.reduceSub, Nat.reduceLT, Nat.reduceLeDiff, Int.reduceLT, Int.reduceLE, Int.reduceEq, Int.reduceGT, Int.reduceGE, Int.reduceNeg, Int.reduceToNat, ne_eq, if_true, if_false, List.map_cons, List.map_nil, Nat.le_refl, SM, r15_5,  d3]
    exact mo.1
  · rw [whyB, if_pos ⟨d1, d2⟩, if_neg d3]
    simp only [↓SP, SQ, SG, SL, ↓reduceIte, undef, iop, isShift, Nat.reduceEqDiff, reduceCtorEq, Nat.reduceAdd, Nat.reduceMul, Nat.reduceSub, Nat.reduceLT, Nat.reduceLeDiff, Int.reduceLT, Int.reduceLE, Int.reduceEq, Int.reduceGT, Int.reduceGE, Int.reduceNeg, Int.reduceToNat, ne_eq, if_true, if_false, List.map_cons, List.map_nil, Nat.le_refl, SM, r15_4,  d3]
    exact mo.1

end Go.AM.K
