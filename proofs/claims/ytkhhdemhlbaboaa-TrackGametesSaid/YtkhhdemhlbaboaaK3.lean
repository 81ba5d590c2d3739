/- Track: the reference's test of a tree; reading a problem. -/
import Derived.Test.YtkhhdemhlbaboaaAMS
import Derived.Test.YtkhhdemhlbaboaaK2
import Derived.Test.YtkhhdemhlbaboaaKR
set_option linter.unusedVariables false
set_option linter.unusedSimpArgs false
set_option maxRecDepth 20000
namespace Go.AM.K
open Go.AM Go.AM.Fn Go.AM.TP
attribute [local congr] ite_cond

theorem made_bools (n : Nat) (b : Bool) : made [.bool b] n = (List.range n).map fun _ => Value.bool b := by
  unfold made
  apply List.map_congr_left
  intro i _
  simp [Nat.mod_one]

/-- Which numbers are used. -/
def usedCells (n : Nat) (used : List Int) : List Value := (List.range n).map fun i : Nat => Value.bool (decide ((i : Int) ∈ used))
theorem usedCells_set (n : Nat) (used : List Int) {a : Nat} (ha : a < n) : (usedCells n used).set a (.bool true) = usedCells n (used ++ [(a : Int)]) := by
  apply List.ext_getElem?
  intro i
  unfold usedCells
  rw [List.getElem?_set, List.getElem?_map, List.getElem?_map]
  by_cases hi : i < n
  · rw [List.getElem?_range hi]
    by_cases e : a = i
    · subst e; simp [hi]
    · have e2 : ¬ i = a := fun h => e h.symm
      simp only [e, if_false, Option.map_some, List.mem_append, List.mem_singleton]
      congr 2
      apply decide_eq_decide.2
      constructor
      · exact fun h => .inl h
      · rintro (h | h)
        · exact h
        · omega
  · rw [List.getElem?_eq_none (by simpa using hi)]
    by_cases e : a = i
    · omega
    · rw [if_neg e]; rfl
theorem usedCells_get (n : Nat) (used : List Int) {a : Nat} (ha : a < n) : (usedCells n used).getD a undef = .bool (decide ((a : Int) ∈ used)) := by
  unfold usedCells
  rw [List.getD_eq_getElem?_getD, List.getElem?_map, List.getElem?_range ha]; rfl
theorem usedCells_perm (n : Nat) {used used' : List Int} (h : ∀ x, x ∈ used ↔ x ∈ used') : usedCells n used = usedCells n used' := by
  unfold usedCells
  apply List.map_congr_left
  intro i _
  congr 1
  exact decide_eq_decide.2 (h _)

set_option maxHeartbeats 1000000 in
theorem refTree_spec {h : Heap} (k : Ok h) {n : Int} {j : Value} {js : List (Int × Int)} (hj : Pairs h j js) : Call T1 33 [.int .i64 n, j] h (fun v h' => v = .bool (treeB n js) ∧ More h h') := by
  refine Call.more k ?_
  refine Call.of (fn := f33) rfl (by simp [f33]) ?_
  unfold f33
  have hlen := hj.len
  have hsm := hj.small
  simp only [↓SP, SQ, SG, SL, ↓reduceIte, undef, iop, isShift, Nat.reduceEqDiff, reduceCtorEq, Nat.reduceAdd, Nat.reduceMul, Nat.reduceSub, Nat.reduceLT, Nat.reduceLeDiff, Int.reduceLT, Int.reduceLE, Int.reduceEq, Int.reduceGT, Int.reduceGE, Int.reduceNeg, Int.reduceToNat, ne_eq, if_true, if_false, List.map_cons, List.map_nil, Nat.le_refl, SM, r33_0, r33_1]
  refine (in_spec _ _ _).imp ?_
  rintro v h' ⟨rfl, rfl⟩
  by_cases c1 : 2 ≤ n ∧ n ≤ 8
  rotate_left
  · have : treeB n js = false := by rw [treeB, decide_eq_false (by omega), Bool.false_and]
    simp only [↓SP, SQ, SG, SL, ↓reduceIte, undef, iop, isShift, Nat.reduceEqDiff, reduceCtorEq, Nat.reduceAdd, Nat.reduceMul, Nat.reduceSub, Nat.reduceLT, Nat.reduceLeDiff, Int.reduceLT, Int.reduceLE, Int.reduceEq, Int.reduceGT, Int.reduceGE, Int.reduceNeg, Int.reduceToNat, ne_eq, if_true, if_false, List.map_cons, List.map_nil, Nat.le_refl, SM, r33_0, r33_1, r33_2,  c1, hlen, this]
    exact .refl _
  have w1 : IntKind.wrap .i64 (n - 1) = n - 1 := by rw [wrap_in] <;> omega
  by_cases c3 : (js.length : Int) = n - 1
  rotate_left
  · have : treeB n js = false := by rw [treeB, decide_eq_false (by omega), Bool.false_and]
    simp only [↓SP, SQ, SG, SL, ↓reduceIte, undef, iop, isShift, Nat.reduceEqDiff, reduceCtorEq, Nat.reduceAdd, Nat.reduceMul, Nat.reduceSub, Nat.reduceLT, Nat.reduceLeDiff, Int.reduceLT, Int.reduceLE, Int.reduceEq, Int.reduceGT, Int.reduceGE, Int.reduceNeg, Int.reduceToNat, ne_eq, if_true, if_false, List.map_cons, List.map_nil, Nat.le_refl, SM, r33_0, r33_1, r33_2,  c1, and_self, c3, hlen, w1, this]
    exact .refl _
  have ht : treeB n js = joinsOk n 0 [] js := by rw [treeB, decide_eq_true (by omega), Bool.true_and]
  rw [ht]
  obtain ⟨N, hN⟩ : ∃ N : Nat, 2 * n - 1 = N := ⟨(2 * n - 1).toNat, by omega⟩
  have w2 : IntKind.wrap .i64 (2 * n) = 2 * n := by rw [wrap_in] <;> omega
  have w3 : IntKind.wrap .i64 (2 * n - 1) = (N : Int) := by rw [wrap_in] <;> omega
  have w4 : ((1 : Nat) : Int) * (N : Int) ≤ 281474976710656 := by omega
  have w5 : (N : Int) ≤ 9223372036854775807 := by omega
  have hmd : made [.bool false] N = usedCells N [] := by rw [made_bools]; simp [usedCells]
  simp only [↓SP, SQ, SG, SL, ↓reduceIte, undef, iop, isShift, Nat.reduceEqDiff, reduceCtorEq, Nat.reduceAdd, Nat.reduceMul, Nat.reduceSub, Nat.reduceLT, Nat.reduceLeDiff, Int.reduceLT, Int.reduceLE, Int.reduceEq, Int.reduceGT, Int.reduceGE, Int.reduceNeg, Int.reduceToNat, ne_eq, if_true, if_false, List.map_cons, List.map_nil, Nat.le_refl, SM, r33_3, r33_4,  c1, and_self, c3, hlen, w1, w2, w3, w4, w5, hmd]
  have own0 : Own h' (h'.alloc { cells := usedCells N [], esz := 0 }) (.slice (some ⟨h'.next, 0, none⟩) N N) N 1 (usedCells N []) :=
    Own.new (.refl _) k (by omega) (by simp [usedCells]) (by rw [List.all_eq_true]; intro x hx; obtain ⟨y, _, rfl⟩ := List.mem_map.1 hx; rfl)
  refine wp_loopK Call.mono (fun q ρ g => Ext h' g ∧ Ok g ∧ ∃ (i : Nat) (used : List Int), ρ 6 = .int .i64 i ∧ i + q = js.length ∧ Own h' g (.slice (some ⟨h'.next, 0, none⟩) N N) N 1 (usedCells N used) ∧ joinsOk n i used (js.drop i) = joinsOk n 0 [] js) ?_ (m := js.length)
    ⟨.alloc _ _, k.alloc _, 0, [], rfl, by omega, own0, rfl⟩
  rintro q ρ g ⟨xg, kg, i, used, q6, hq, own, hjo⟩ keep
  have ρ_0 : ρ 0 = .int .i64 n := by rw [keep 0 (of_decide_eq_true rfl)]; first | rfl | assumption
  have ρ_1 : ρ 1 = j := by rw [keep 1 (of_decide_eq_true rfl)]; first | rfl | assumption
  have ρ_5 : ρ 5 = .slice (some ⟨h'.next, 0, none⟩) N N := by rw [keep 5 (of_decide_eq_true rfl)]; first | rfl | assumption
  unfold b33_1
  by_cases hi : i < js.length
  rotate_left
  · have hi' : ¬ (i : Int) < n - 1 := by omega
    simp only [↓SP, SQ, SG, SL, ↓reduceIte, undef, iop, isShift, Nat.reduceEqDiff, reduceCtorEq, Nat.reduceAdd, Nat.reduceMul, Nat.reduceSub, Nat.reduceLT, Nat.reduceLeDiff, Int.reduceLT, Int.reduceLE, Int.reduceEq, Int.reduceGT, Int.reduceGE, Int.reduceNeg, Int.reduceToNat, ne_eq, if_true, if_false, List.map_cons, List.map_nil, Nat.le_refl, SM, r33_5, r33_11,  ρ_0, ρ_1, ρ_5, q6, hi', hlen, c3]
    rw [List.drop_of_length_le (by omega)] at hjo
    rw [← hjo]
    exact ⟨rfl, xg⟩
  have hi' : (i : Int) < n - 1 := by omega
  obtain ⟨p, e1, _, e2⟩ := Reads.elemN (enc := pairCells) (sz := 2) (fun _ => rfl) (Reads.ext xg k hj) hi
  rw [List.drop_eq_getElem_cons hi] at hjo
  generalize hab : js[i] = ab at *
  obtain ⟨a, b⟩ := ab
  obtain ⟨pb, po, rfl⟩ := iaddr_ptr e1
  have f1 := rd_field e2 (j := 0) (by omega)
  have f2 := rd_field e2 (j := 1) (by omega)
  simp only [pairCells, List.getD_cons_zero, List.getD_cons_succ, Nat.add_zero] at f1 f2
  simp only [joinsOk] at hjo
  have w6 : IntKind.wrap .i64 (n + (i : Int)) = n + i := by rw [wrap_in] <;> omega
  have w7 : IntKind.wrap .i64 (n + (i : Int) - 1) = n + i - 1 := by rw [wrap_in] <;> omega
  have w8 : IntKind.wrap .i64 ((i : Int) + 1) = ((i + 1 : Nat) : Int) := by rw [wrap_in] <;> omega
  simp only [↓SP, SQ, SG, SL, ↓reduceIte, undef, iop, isShift, Nat.reduceEqDiff, reduceCtorEq, Nat.reduceAdd, Nat.reduceMul, Nat.reduceSub, Nat.reduceLT, Nat.reduceLeDiff, Int.reduceLT, Int.reduceLE, Int.reduceEq, Int.reduceGT, Int.reduceGE, Int.reduceNeg, Int.reduceToNat, ne_eq, if_true, if_false, List.map_cons, List.map_nil, Nat.le_refl, SM, r33_5, r33_7, r33_8,  ρ_0, ρ_1, ρ_5, q6, hi', hlen, c3, e1, f1, f2, w6, w7]
  refine (in_spec _ _ _).imp ?_
  rintro v h1 ⟨rfl, rfl⟩
  by_cases d1 : 0 ≤ a ∧ a ≤ n + i - 1
  rotate_left
  · rw [decide_eq_false (by omega), Bool.false_and, Bool.false_and] at hjo
    simp only [↓SP, SQ, SG, SL, ↓reduceIte, undef, iop, isShift, Nat.reduceEqDiff, reduceCtorEq, Nat.reduceAdd, Nat.reduceMul, Nat.reduceSub, Nat.reduceLT, Nat.reduceLeDiff, Int.reduceLT, Int.reduceLE, Int.reduceEq, Int.reduceGT, Int.reduceGE, Int.reduceNeg, Int.reduceToNat, ne_eq, if_true, if_false, List.map_cons, List.map_nil, Nat.le_refl, SM, r33_9,  ρ_0, ρ_1, ρ_5, q6, d1]
    rw [← hjo]
    exact ⟨rfl, xg⟩
  simp only [↓SP, SQ, SG, SL, ↓reduceIte, undef, iop, isShift, Nat.reduceEqDiff, reduceCtorEq, Nat.reduceAdd, Nat.reduceMul, Nat.reduceSub, Nat.reduceLT, Nat.reduceLeDiff, Int.reduceLT, Int.reduceLE, Int.reduceEq, Int.reduceGT, Int.reduceGE, Int.reduceNeg, Int.reduceToNat, ne_eq, if_true, if_false, List.map_cons, List.map_nil, Nat.le_refl, SM, ρ_0, ρ_1, ρ_5, q6, d1, and_self, w6, w7]
  refine (in_spec _ _ _).imp ?_
  rintro v h2 ⟨rfl, rfl⟩
  by_cases d2 : 0 ≤ b ∧ b ≤ n + i - 1
  rotate_left
  · rw [decide_eq_false (p := 0 ≤ b ∧ b < n + ↑i ∧ b ∉ used ++ [a]) (by omega), Bool.and_false, Bool.false_and] at hjo
    simp only [↓SP, SQ, SG, SL, ↓reduceIte, undef, iop, isShift, Nat.reduceEqDiff, reduceCtorEq, Nat.reduceAdd, Nat.reduceMul, Nat.reduceSub, Nat.reduceLT, Nat.reduceLeDiff, Int.reduceLT, Int.reduceLE, Int.reduceEq, Int.reduceGT, Int.reduceGE, Int.reduceNeg, Int.reduceToNat, ne_eq, if_true, if_false, List.map_cons, List.map_nil, Nat.le_refl, SM, r33_9,  ρ_0, ρ_1, ρ_5, q6, d2]
    rw [← hjo]
    exact ⟨rfl, xg⟩
  obtain ⟨a0, rfl⟩ : ∃ a0 : Nat, a = a0 := ⟨a.toNat, by omega⟩
  obtain ⟨b0, rfl⟩ : ∃ b0 : Nat, b = b0 := ⟨b.toNat, by omega⟩
  have ha : a0 < N := by omega
  have hb : b0 < N := by omega
  by_cases d3 : a0 = b0
  · subst d3
    rw [decide_eq_false (p := 0 ≤ (a0 : Int) ∧ (a0 : Int) < n + ↑i ∧ (a0 : Int) ∉ used ++ [(a0 : Int)]) (by simp), Bool.and_false, Bool.false_and] at hjo
    simp only [↓SP, SQ, SG, SL, ↓reduceIte, undef, iop, isShift, Nat.reduceEqDiff, reduceCtorEq, Nat.reduceAdd, Nat.reduceMul, Nat.reduceSub, Nat.reduceLT, Nat.reduceLeDiff, Int.reduceLT, Int.reduceLE, Int.reduceEq, Int.reduceGT, Int.reduceGE, Int.reduceNeg, Int.reduceToNat, ne_eq, if_true, if_false, List.map_cons, List.map_nil, Nat.le_refl, SM, r33_9,  ρ_0, ρ_1, ρ_5, q6, d2, and_self]
    rw [← hjo]
    exact ⟨rfl, xg⟩
  have d3' : ¬ (a0 : Int) = (b0 : Int) := by omega
  obtain ⟨pa, g1, g2⟩ := own.reads.elem1 ha
  obtain ⟨pb2, g3, g4⟩ := own.reads.elem1 hb
  rw [usedCells_get N used ha] at g2
  rw [usedCells_get N used hb] at g4
  by_cases d4 : (a0 : Int) ∈ used
  · rw [decide_eq_false (by simp [d4]), Bool.false_and, Bool.false_and] at hjo
    simp only [↓SP, SQ, SG, SL, ↓reduceIte, undef, iop, isShift, Nat.reduceEqDiff, reduceCtorEq, Nat.reduceAdd, Nat.reduceMul, Nat.reduceSub, Nat.reduceLT, Nat.reduceLeDiff, Int.reduceLT, Int.reduceLE, Int.reduceEq, Int.reduceGT, Int.reduceGE, Int.reduceNeg, Int.reduceToNat, ne_eq, if_true, if_false, List.map_cons, List.map_nil, Nat.le_refl, SM, r33_9,  ρ_0, ρ_1, ρ_5, q6, d2, d3', d4, g1, g2, g3, g4, and_self, decide_true]
    rw [← hjo]
    exact ⟨rfl, xg⟩
  by_cases d5 : (b0 : Int) ∈ used
  · rw [decide_eq_false (p := 0 ≤ (b0 : Int) ∧ (b0 : Int) < n + ↑i ∧ (b0 : Int) ∉ used ++ [(a0 : Int)]) (by simp [d5]), Bool.and_false, Bool.false_and] at hjo
    simp only [↓SP, SQ, SG, SL, ↓reduceIte, undef, iop, isShift, Nat.reduceEqDiff, reduceCtorEq, Nat.reduceAdd, Nat.reduceMul, Nat.reduceSub, Nat.reduceLT, Nat.reduceLeDiff, Int.reduceLT, Int.reduceLE, Int.reduceEq, Int.reduceGT, Int.reduceGE, Int.reduceNeg, Int.reduceToNat, ne_eq, if_true, if_false, List.map_cons, List.map_nil, Nat.le_refl, SM, r33_9,  ρ_0, ρ_1, ρ_5, q6, d2, d3', d4, d5, g1, g2, g3, g4, and_self, decide_true, decide_false]
    rw [← hjo]
    exact ⟨rfl, xg⟩
  rw [decide_eq_true ⟨by omega, by omega, d4⟩, decide_eq_true ⟨by omega, by omega, by simp [d5]; omega⟩, Bool.true_and, Bool.true_and] at hjo
  obtain ⟨p1, g5, s1, s2, own1, k1, ov1, n1⟩ := own.set kg ha (x := .bool true) rfl rfl
  rw [usedCells_set N used ha] at own1
  obtain ⟨p2, g6, s3, s4, own2, k2, ov2, n2⟩ := own1.set k1 hb (x := .bool true) rfl rfl
  rw [usedCells_set N _ hb] at own2
  rw [g1] at s1
  rw [g3] at s3
  simp only [Option.some.injEq] at s1 s3
  subst s1; subst s3
  have s2' : storeA h2 1 pa (.bool true) = some (.tuple #[], g5) := s2
  have s4' : storeA g5 1 pb2 (.bool true) = some (.tuple #[], g6) := s4
  have hblk : ∀ z, InBlk (.slice (some ⟨h'.next, 0, none⟩) N N) z → h'.next ≤ z := by
    intro z ⟨o, m, n', c, ez, _⟩
    simp only [Value.slice.injEq, Option.some.injEq, Addr.mk.injEq] at ez
    omega
  simp only [↓SP, SQ, SG, SL, ↓reduceIte, undef, iop, isShift, Nat.reduceEqDiff, reduceCtorEq, Nat.reduceAdd, Nat.reduceMul, Nat.reduceSub, Nat.reduceLT, Nat.reduceLeDiff, Int.reduceLT, Int.reduceLE, Int.reduceEq, Int.reduceGT, Int.reduceGE, Int.reduceNeg, Int.reduceToNat, ne_eq, if_true, if_false, List.map_cons, List.map_nil, Nat.le_refl, SM, r33_6, r33_10,  ρ_0, ρ_1, ρ_5, q6, d2, d3', d4, d5, g1, g2, g3, g4, s2', s4', and_self, decide_false, w8]
  refine ⟨q - 1, by omega, ov2.ext (ov1.ext xg hblk) hblk, k2, i + 1, used ++ [(a0 : Int), (b0 : Int)], rfl, by omega, ?_, hjo⟩
  rw [List.append_assoc] at own2
  exact own2

end Go.AM.K
