/- Track: reading a problem. -/
import Derived.Test.YtkhhdemhlbaboaaAMS
import Derived.Test.YtkhhdemhlbaboaaK3
set_option linter.unusedVariables false
set_option linter.unusedSimpArgs false
set_option maxRecDepth 20000
namespace Go.AM.K
open Go.AM Go.AM.Fn Go.AM.TP
attribute [local congr] ite_cond

theorem read11_spec {h : Heap} (x : Int) : Call T1 57 [.int .i64 x] h (fun v h' => v = .bool (!decide (0 ≤ x ∧ x ≤ 100)) ∧ h' = h) := by
  refine Call.of (fn := f57) rfl (by simp [f57]) ?_
  unfold f57
  by_cases h1 : x < 0
  · have h2 : ¬ (0 ≤ x ∧ x ≤ 100) := by omega
    simp only [↓SP, SQ, SG, SL, ↓reduceIte, undef, iop, isShift, Nat.reduceEqDiff, reduceCtorEq, Nat.reduceAdd, Nat.reduceMul, Nat.reduceSub, Nat.reduceLT, Nat.reduceLeDiff, Int.reduceLT, Int.reduceLE, Int.reduceEq, Int.reduceGT, Int.reduceGE, Int.reduceNeg, Int.reduceToNat, ne_eq, if_true, if_false, List.map_cons, List.map_nil, Nat.le_refl, SM, r57_0, r57_1, h1, h2, decide_false]
  · by_cases h2 : 100 < x
    · have h3 : ¬ (0 ≤ x ∧ x ≤ 100) := by omega
      simp only [↓SP, SQ, SG, SL, ↓reduceIte, undef, iop, isShift, Nat.reduceEqDiff, reduceCtorEq, Nat.reduceAdd, Nat.reduceMul, Nat.reduceSub, Nat.reduceLT, Nat.reduceLeDiff, Int.reduceLT, Int.reduceLE, Int.reduceEq, Int.reduceGT, Int.reduceGE, Int.reduceNeg, Int.reduceToNat, ne_eq, if_true, if_false, List.map_cons, List.map_nil, Nat.le_refl, SM, r57_0, r57_1, h1, h2, h3, decide_false]
    · have h3 : 0 ≤ x ∧ x ≤ 100 := by omega
      simp only [↓SP, SQ, SG, SL, ↓reduceIte, undef, iop, isShift, Nat.reduceEqDiff, reduceCtorEq, Nat.reduceAdd, Nat.reduceMul, Nat.reduceSub, Nat.reduceLT, Nat.reduceLeDiff, Int.reduceLT, Int.reduceLE, Int.reduceEq, Int.reduceGT, Int.reduceGE, Int.reduceNeg, Int.reduceToNat, ne_eq, if_true, if_false, List.map_cons, List.map_nil, Nat.le_refl, SM, r57_0, r57_1, h1, h2, h3, decide_true, and_self]

theorem read1_spec {h : Heap} (kk : Ok h) {pk k : Nat} {e : Nat} (hb : h.base ≤ pk) (hg : h.get pk = some { cells := [.int .i64 k], esz := e }) {v : Value} {row : List Int} (hr : Ints h v row) :
    Call T1 55 [v, .pointer (some ⟨pk, 0, none⟩)] h (fun u h' => u = .bool (!rowB k row) ∧ More h h') := by
  refine Call.more kk ?_
  refine Call.of (fn := f55) rfl (by simp [f55]) ?_
  unfold f55
  have hlen := hr.len
  by_cases hn : row.length = k
  · have hn' : (row.length : Int) = (k : Int) := by omega
    simp only [↓SP, SQ, SG, SL, ↓reduceIte, undef, iop, isShift, Nat.reduceEqDiff, reduceCtorEq, Nat.reduceAdd, Nat.reduceMul, Nat.reduceSub, Nat.reduceLT, Nat.reduceLeDiff, Int.reduceLT, Int.reduceLE, Int.reduceEq, Int.reduceGT, Int.reduceGE, Int.reduceNeg, Int.reduceToNat, ne_eq, if_true, if_false, List.map_cons, List.map_nil, Nat.le_refl, SM, r55_0, r55_1, hlen, hb, hg, hn']
    refine (containsFunc_spec kk hr (p := fun x => !decide (0 ≤ x ∧ x ≤ 100)) (cap := []) (fun x _ g mo => ?_)).imp ?_
    · refine (read11_spec x).imp ?_
      rintro v g' ⟨rfl, rfl⟩
      exact ⟨rfl, .refl mo.2⟩
    · rintro v g ⟨rfl, mo⟩
      simp only [↓SP, SQ, SG, SL, ↓reduceIte, undef, iop, isShift, Nat.reduceEqDiff, reduceCtorEq, Nat.reduceAdd, Nat.reduceMul, Nat.reduceSub, Nat.reduceLT, Nat.reduceLeDiff, Int.reduceLT, Int.reduceLE, Int.reduceEq, Int.reduceGT, Int.reduceGE, Int.reduceNeg, Int.reduceToNat, ne_eq, if_true, if_false, List.map_cons, List.map_nil, Nat.le_refl, SM]
      refine ⟨?_, mo.1⟩
      rw [any_not_all, rowB, decide_eq_true hn, Bool.true_and]
  · have hn' : ¬ (row.length : Int) = (k : Int) := by omega
    simp only [↓SP, SQ, SG, SL, ↓reduceIte, undef, iop, isShift, Nat.reduceEqDiff, reduceCtorEq, Nat.reduceAdd, Nat.reduceMul, Nat.reduceSub, Nat.reduceLT, Nat.reduceLeDiff, Int.reduceLT, Int.reduceLE, Int.reduceEq, Int.reduceGT, Int.reduceGE, Int.reduceNeg, Int.reduceToNat, ne_eq, if_true, if_false, List.map_cons, List.map_nil, Nat.le_refl, SM, r55_0, r55_1, hlen, hb, hg, hn']
    refine ⟨?_, .refl _⟩
    rw [rowB, decide_eq_false hn, Bool.false_and]; rfl

theorem indexRows_spec {h : Heap} (k : Ok h) {l : Value} {rows : List (List Int)} (hl : Mat h l rows) {fid : Nat} {cap : List Value} {p : List Int → Bool} (hf : ∀ r ∈ rows, ∀ v g, More h g → Ints g v r → Call T1 fid (v :: cap) g (fun u g' => u = .bool (p r) ∧ More g g')) :
    Call T1 70 [l, .func (.func fid) #[] cap.toArray] h (fun v h' => ∃ r : Int, v = .int .i64 r ∧ (0 ≤ r ↔ rows.any p = true) ∧ More h h') := by
  refine Call.of (fn := f70) rfl (by simp [f70]) ?_
  unfold f70
  have hlen := hl.len
  have hsm := hl.small
  simp only [↓SP, SQ, SG, SL, ↓reduceIte, undef, iop, isShift, Nat.reduceEqDiff, reduceCtorEq, Nat.reduceAdd, Nat.reduceMul, Nat.reduceSub, Nat.reduceLT, Nat.reduceLeDiff, Int.reduceLT, Int.reduceLE, Int.reduceEq, Int.reduceGT, Int.reduceGE, Int.reduceNeg, Int.reduceToNat, ne_eq, if_true, if_false, List.map_cons, List.map_nil, Nat.le_refl, SM, r70_0, r70_1,  hlen]
  refine wp_loopK Call.mono (fun q ρ g => More h g ∧ ∃ i : Nat, ρ 8 = .int .i64 i ∧ i + q = rows.length ∧ ((rows.drop i).any p = rows.any p)) ?_ (m := rows.length) ⟨.refl k, 0, rfl, by omega, by simp⟩
  rintro q ρ g ⟨mo, i, q8, hq, hin⟩ keep
  have ρ_0 : ρ 0 = l := by rw [keep 0 (of_decide_eq_true rfl)]; first | rfl | assumption
  have ρ_1 : ρ 1 = .func (.func fid) #[] cap.toArray := by rw [keep 1 (of_decide_eq_true rfl)]; first | rfl | assumption
  have ρ_7 : ρ 7 = .int .i64 rows.length := by rw [keep 7 (of_decide_eq_true rfl)]; first | rfl | assumption
  unfold b70_1
  by_cases hi : i < rows.length
  · obtain ⟨a, u, e1, e2, hu, _⟩ := (hl.ext mo.1 k).row hi
    rw [List.drop_eq_getElem_cons hi, List.any_cons] at hin
    simp only [↓SP, SQ, SG, SL, ↓reduceIte, undef, iop, isShift, Nat.reduceEqDiff, reduceCtorEq, Nat.reduceAdd, Nat.reduceMul, Nat.reduceSub, Nat.reduceLT, Nat.reduceLeDiff, Int.reduceLT, Int.reduceLE, Int.reduceEq, Int.reduceGT, Int.reduceGE, Int.reduceNeg, Int.reduceToNat, ne_eq, if_true, if_false, List.map_cons, List.map_nil, Nat.le_refl, SM, r70_2, r70_3, r70_4,  ρ_0, ρ_1, ρ_7, q8, hi, e1, e2]
    refine (hf _ (List.getElem_mem hi) u g mo hu).imp ?_
    rintro v g' ⟨rfl, mo'⟩
    cases hp : p rows[i] with
    | true =>
      simp only [↓SP, SQ, SG, SL, ↓reduceIte, undef, iop, isShift, Nat.reduceEqDiff, reduceCtorEq, Nat.reduceAdd, Nat.reduceMul, Nat.reduceSub, Nat.reduceLT, Nat.reduceLeDiff, Int.reduceLT, Int.reduceLE, Int.reduceEq, Int.reduceGT, Int.reduceGE, Int.reduceNeg, Int.reduceToNat, ne_eq, if_true, if_false, List.map_cons, List.map_nil, Nat.le_refl, SM, r70_0, r70_1, r70_2, r70_3, r70_4, r70_5, r70_6, r70_7, ρ_0, ρ_1, ρ_7, q8]
      refine ⟨_, rfl, ?_, mo.trans mo'⟩
      rw [← hin, hp]
      simp
    | false =>
      simp only [↓SP, SQ, SG, SL, ↓reduceIte, undef, iop, isShift, Nat.reduceEqDiff, reduceCtorEq, Nat.reduceAdd, Nat.reduceMul, Nat.reduceSub, Nat.reduceLT, Nat.reduceLeDiff, Int.reduceLT, Int.reduceLE, Int.reduceEq, Int.reduceGT, Int.reduceGE, Int.reduceNeg, Int.reduceToNat, ne_eq, if_true, if_false, List.map_cons, List.map_nil, Nat.le_refl, SM, r70_0, r70_1, r70_2, r70_3, r70_4, r70_5, r70_6, r70_7, ρ_0, ρ_1, ρ_7, q8, wrap_succ hi hsm]
      refine ⟨q - 1, by omega, mo.trans mo', i + 1, rfl, by omega, ?_⟩
      rw [← hin, hp, Bool.false_or]
  · simp only [↓SP, SQ, SG, SL, ↓reduceIte, undef, iop, isShift, Nat.reduceEqDiff, reduceCtorEq, Nat.reduceAdd, Nat.reduceMul, Nat.reduceSub, Nat.reduceLT, Nat.reduceLeDiff, Int.reduceLT, Int.reduceLE, Int.reduceEq, Int.reduceGT, Int.reduceGE, Int.reduceNeg, Int.reduceToNat, ne_eq, if_true, if_false, List.map_cons, List.map_nil, Nat.le_refl, SM, r70_0, r70_1, r70_2, r70_3, r70_4, r70_5, r70_6, r70_7, ρ_0, ρ_1, ρ_7, q8, hi]
    refine ⟨_, rfl, ?_, mo⟩
    rw [← hin, List.drop_of_length_le (by omega)]
    simp

theorem containsRows_spec {h : Heap} (k : Ok h) {l : Value} {rows : List (List Int)} (hl : Mat h l rows) {fid : Nat} {cap : List Value} {p : List Int → Bool} (hf : ∀ r ∈ rows, ∀ v g, More h g → Ints g v r → Call T1 fid (v :: cap) g (fun u g' => u = .bool (p r) ∧ More g g')) :
    Call T1 58 [l, .func (.func fid) #[] cap.toArray] h (fun v h' => v = .bool (rows.any p) ∧ More h h') := by
  refine Call.of (fn := f58) rfl (by simp [f58]) ?_
  unfold f58
  simp only [↓SP, SQ, SG, SL, ↓reduceIte, undef, iop, isShift, Nat.reduceEqDiff, reduceCtorEq, Nat.reduceAdd, Nat.reduceMul, Nat.reduceSub, Nat.reduceLT, Nat.reduceLeDiff, Int.reduceLT, Int.reduceLE, Int.reduceEq, Int.reduceGT, Int.reduceGE, Int.reduceNeg, Int.reduceToNat, ne_eq, if_true, if_false, List.map_cons, List.map_nil, Nat.le_refl, SM, r58_0, r58_1]
  refine (indexRows_spec k hl hf).imp ?_
  rintro v h' ⟨r, rfl, hr, mo⟩
  by_cases h0 : 0 ≤ r
  · simp only [↓SP, SQ, SG, SL, ↓reduceIte, undef, iop, isShift, Nat.reduceEqDiff, reduceCtorEq, Nat.reduceAdd, Nat.reduceMul, Nat.reduceSub, Nat.reduceLT, Nat.reduceLeDiff, Int.reduceLT, Int.reduceLE, Int.reduceEq, Int.reduceGT, Int.reduceGE, Int.reduceNeg, Int.reduceToNat, ne_eq, if_true, if_false, List.map_cons, List.map_nil, Nat.le_refl, SM, r58_0, r58_1, h0, hr.1 h0]
    exact mo
  · have : rows.any p = false := by
      cases e : rows.any p with
      | true => exact absurd (hr.2 e) h0
      | false => rfl
    simp only [↓SP, SQ, SG, SL, ↓reduceIte, undef, iop, isShift, Nat.reduceEqDiff, reduceCtorEq, Nat.reduceAdd, Nat.reduceMul, Nat.reduceSub, Nat.reduceLT, Nat.reduceLeDiff, Int.reduceLT, Int.reduceLE, Int.reduceEq, Int.reduceGT, Int.reduceGE, Int.reduceNeg, Int.reduceToNat, ne_eq, if_true, if_false, List.map_cons, List.map_nil, Nat.le_refl, SM, r58_0, r58_1, h0, this]
    exact mo

theorem any_not_all' {α : Type} (l : List α) (p : α → Bool) : (l.any fun x => !p x) = !l.all p := by
  induction l with
  | nil => rfl
  | cons a l ih => simp [ih]

/-- A problem in memory. -/
structure Prob (h : Heap) (p : Value) (n : Int) (k : Nat) (js : List (Int × Int)) (costs : List (List Int)) (leaves : List Int) : Prop where
  out : ∃ b pc j l c, p = .pointer (some ⟨b, 0, none⟩) ∧ h.base ≤ b ∧ h.base ≤ pc ∧
    h.get b = some { cells := [.int .i64 n, j, l, .int .i64 k, .func (.func 59) #[] #[.pointer (some ⟨pc, 0, none⟩)]], esz := 0 } ∧
    h.get pc = some { cells := [c], esz := 0 } ∧ Pairs h j js ∧ Ints h l leaves ∧ Mat h c costs

theorem Prob.ext {h h' : Heap} (x : Ext h h') (kk : Ok h) {p : Value} {n : Int} {k : Nat} {js : List (Int × Int)} {costs : List (List Int)} {leaves : List Int} (r : Prob h p n k js costs leaves) : Prob h' p n k js costs leaves := by
  obtain ⟨b, pc, j, l, c, e, h1, h2, h3, h4, h5, h6, h7⟩ := r.out
  exact ⟨b, pc, j, l, c, e, by rw [x.base]; exact h1, by rw [x.base]; exact h2, by rw [x.get _ (kk.lt h3)]; exact h3, by rw [x.get _ (kk.lt h4)]; exact h4, h5.ext x kk, h6.ext x kk, h7.ext x kk⟩

def whyB (n : Int) (js : List (Int × Int)) (costs : List (List Int)) (leaves : List Int) : Int := if treeB n js = true ∧ costsB costs = true then (if statesB n costs.length leaves = true then 0 else 2) else 1

set_option maxHeartbeats 1000000 in
theorem read_spec {h : Heap} (kk : Ok h) {n : Int} {j c l : Value} {js : List (Int × Int)} {costs : List (List Int)} {leaves : List Int} (hj : Pairs h j js) (hc : Mat h c costs) (hfc : Fit c) (hfj : Fit j) (hfl : Fit l) (hl : Ints h l leaves) :
    Call T1 36 [.int .i64 n, j, c, l] h (fun v h' => ∃ p, v = .tuple #[p, .int .i64 (whyB n js costs leaves)] ∧ (whyB n js costs leaves = 0 → Prob h' p n costs.length js costs leaves) ∧ More h h') := by
  refine (Call.more kk (R := fun v h' => ∃ p, v = .tuple #[p, .int .i64 (whyB n js costs leaves)] ∧ (whyB n js costs leaves = 0 → Prob h' p n costs.length js costs leaves)) ?_).imp (fun v h' ⟨⟨p, a, b⟩, m⟩ => ⟨p, a, b, m⟩)
  refine Call.of (fn := f36) rfl (by simp [f36]) ?_
  unfold f36
  have hlen := hc.len
  have hcc := hfc.cell
  have hcj := hfj.cell
  have hcl := hfl.cell
  have hk0 := kk.le
  have hlt : (h.alloc { cells := [c], esz := 0 }).next = h.next + 1 := rfl
  have x2 : Ext h (((h.alloc { cells := [c], esz := 0 }).alloc { cells := [.int .i64 0], esz := 0 }).put (h.next + 1) { cells := [.int .i64 costs.length], esz := 0 }) := ((Ext.alloc _ _).alloc' _).put (by omega) _
  have k2 : Ok (((h.alloc { cells := [c], esz := 0 }).alloc { cells := [.int .i64 0], esz := 0 }).put (h.next + 1) { cells := [.int .i64 costs.length], esz := 0 }) := ((kk.alloc _).alloc _).put (by simp [Heap.alloc]) _
  have gc : (((h.alloc { cells := [c], esz := 0 }).alloc { cells := [.int .i64 0], esz := 0 }).put (h.next + 1) { cells := [.int .i64 costs.length], esz := 0 }).get h.next = some { cells := [c], esz := 0 } := by simp [Heap.alloc, Heap.put]
  have gk : (((h.alloc { cells := [c], esz := 0 }).alloc { cells := [.int .i64 0], esz := 0 }).put (h.next + 1) { cells := [.int .i64 costs.length], esz := 0 }).get (h.next + 1) = some { cells := [.int .i64 costs.length], esz := 0 } := by simp [Heap.alloc, Heap.put]
  have hb1 : h.base ≤ h.next + 1 := by omega
  have n1 : ¬ h.next = h.next + 1 := by omega
  simp only [↓SP, SQ, SG, SL, ↓reduceIte, undef, iop, isShift, Nat.reduceEqDiff, reduceCtorEq, Nat.reduceAdd, Nat.reduceMul, Nat.reduceSub, Nat.reduceLT, Nat.reduceLeDiff, Int.reduceLT, Int.reduceLE, Int.reduceEq, Int.reduceGT, Int.reduceGE, Int.reduceNeg, Int.reduceToNat, ne_eq, if_true, if_false, List.map_cons, List.map_nil, Nat.le_refl, SM, r36_0, r36_1, r36_2, r36_3,  hlen, hcc, hk0, hb1, n1]
  generalize (((h.alloc { cells := [c], esz := 0 }).alloc { cells := [.int .i64 0], esz := 0 }).put (h.next + 1) { cells := [.int .i64 costs.length], esz := 0 }) = g2 at *
  refine (tree_spec k2 (hj.ext x2 kk)).imp ?_
  rintro v g3 ⟨rfl, m3⟩
  have gk3 : g3.get (h.next + 1) = some { cells := [.int .i64 costs.length], esz := 0 } := by rw [m3.1.get _ (k2.lt gk)]; exact gk
  have gc3 : g3.get h.next = some { cells := [c], esz := 0 } := by rw [m3.1.get _ (k2.lt gc)]; exact gc
  have b3 : g3.base ≤ h.next := by rw [m3.1.base, x2.base]; exact hk0
  have b3' : g3.base ≤ h.next + 1 := by omega
  by_cases d1 : treeB n js = true
  rotate_left
  · have e : whyB n js costs leaves = 1 := by rw [whyB, if_neg (fun x => d1 x.1)]
    rw [e]
    simp only [↓SP, SQ, SG, SL, ↓reduceIte, undef, iop, isShift, Nat.reduceEqDiff, reduceCtorEq, Nat.reduceAdd, Nat.reduceMul, Nat.reduceSub, Nat.reduceLT, Nat.reduceLeDiff, Int.reduceLT, Int.reduceLE, Int.reduceEq, Int.reduceGT, Int.reduceGE, Int.reduceNeg, Int.reduceToNat, ne_eq, if_true, if_false, List.map_cons, List.map_nil, Nat.le_refl, SM, r36_4,  d1]
    exact ⟨⟨_, rfl, fun x => by first | exact x.elim | omega⟩, x2.trans m3.1⟩
  by_cases d2 : costs.length < 1
  · have d2' : (costs.length : Int) < 1 := by omega
    have e : whyB n js costs leaves = 1 := by
      rw [whyB, if_neg]; rintro ⟨_, x⟩
      simp only [costsB, Bool.and_eq_true, decide_eq_true_eq] at x; omega
    rw [e]
    simp only [↓SP, SQ, SG, SL, ↓reduceIte, undef, iop, isShift, Nat.reduceEqDiff, reduceCtorEq, Nat.reduceAdd, Nat.reduceMul, Nat.reduceSub, Nat.reduceLT, Nat.reduceLeDiff, Int.reduceLT, Int.reduceLE, Int.reduceEq, Int.reduceGT, Int.reduceGE, Int.reduceNeg, Int.reduceToNat, ne_eq, if_true, if_false, List.map_cons, List.map_nil, Nat.le_refl, SM, r36_4,  d1, gk3, gc3, b3, b3', d2']
    exact ⟨⟨_, rfl, fun x => by first | exact x.elim | omega⟩, x2.trans m3.1⟩
  have d2' : ¬ (costs.length : Int) < 1 := by omega
  by_cases d3 : 4 < costs.length
  · have d3' : (4 : Int) < (costs.length : Int) := by omega
    have e : whyB n js costs leaves = 1 := by
      rw [whyB, if_neg]; rintro ⟨_, x⟩
      simp only [costsB, Bool.and_eq_true, decide_eq_true_eq] at x; omega
    rw [e]
    simp only [↓SP, SQ, SG, SL, ↓reduceIte, undef, iop, isShift, Nat.reduceEqDiff, reduceCtorEq, Nat.reduceAdd, Nat.reduceMul, Nat.reduceSub, Nat.reduceLT, Nat.reduceLeDiff, Int.reduceLT, Int.reduceLE, Int.reduceEq, Int.reduceGT, Int.reduceGE, Int.reduceNeg, Int.reduceToNat, ne_eq, if_true, if_false, List.map_cons, List.map_nil, Nat.le_refl, SM, r36_4,  d1, gk3, gc3, b3, b3', d2', d3']
    exact ⟨⟨_, rfl, fun x => by first | exact x.elim | omega⟩, x2.trans m3.1⟩
  have d3' : ¬ (4 : Int) < (costs.length : Int) := by omega
  simp only [↓SP, SQ, SG, SL, ↓reduceIte, undef, iop, isShift, Nat.reduceEqDiff, reduceCtorEq, Nat.reduceAdd, Nat.reduceMul, Nat.reduceSub, Nat.reduceLT, Nat.reduceLeDiff, Int.reduceLT, Int.reduceLE, Int.reduceEq, Int.reduceGT, Int.reduceGE, Int.reduceNeg, Int.reduceToNat, ne_eq, if_true, if_false, List.map_cons, List.map_nil, Nat.le_refl, SM, d1, gk3, gc3, b3, b3', d2', d3']
  have x3 := x2.trans m3.1
  refine (containsRows_spec m3.2 (hc.ext x3 kk) (p := fun r => !rowB costs.length r) (cap := [.pointer (some ⟨h.next + 1, 0, none⟩)]) (fun r _ u g mo hu => ?_)).imp ?_
  · exact read1_spec mo.2 (by rw [mo.1.base]; exact b3') (by rw [mo.1.get _ (m3.2.lt gk3)]; exact gk3) hu
  rintro v g4 ⟨rfl, m4⟩
  have x4 := x3.trans m4.1
  have gk4 : g4.get (h.next + 1) = some { cells := [.int .i64 costs.length], esz := 0 } := by rw [m4.1.get _ (m3.2.lt gk3)]; exact gk3
  have gc4 : g4.get h.next = some { cells := [c], esz := 0 } := by rw [m4.1.get _ (m3.2.lt gc3)]; exact gc3
  have b4 : g4.base ≤ h.next := by rw [m4.1.base]; exact b3
  have b4' : g4.base ≤ h.next + 1 := by omega
  rw [any_not_all']
  have hcb : costsB costs = costs.all (rowB costs.length) := by rw [costsB, decide_eq_true (by omega), Bool.true_and]
  by_cases d4 : costs.all (rowB costs.length) = true
  rotate_left
  · have e : whyB n js costs leaves = 1 := by rw [whyB, if_neg (fun x => d4 (hcb ▸ x.2))]
    rw [e]
    simp only [↓SP, SQ, SG, SL, ↓reduceIte, undef, iop, isShift, Nat.reduceEqDiff, reduceCtorEq, Nat.reduceAdd, Nat.reduceMul, Nat.reduceSub, Nat.reduceLT, Nat.reduceLeDiff, Int.reduceLT, Int.reduceLE, Int.reduceEq, Int.reduceGT, Int.reduceGE, Int.reduceNeg, Int.reduceToNat, ne_eq, if_true, if_false, List.map_cons, List.map_nil, Nat.le_refl, SM, r36_4,  d4]
    exact ⟨⟨_, rfl, fun x => by first | exact x.elim | omega⟩, x4⟩
  simp only [↓SP, SQ, SG, SL, ↓reduceIte, undef, iop, isShift, Nat.reduceEqDiff, reduceCtorEq, Nat.reduceAdd, Nat.reduceMul, Nat.reduceSub, Nat.reduceLT, Nat.reduceLeDiff, Int.reduceLT, Int.reduceLE, Int.reduceEq, Int.reduceGT, Int.reduceGE, Int.reduceNeg, Int.reduceToNat, ne_eq, if_true, if_false, List.map_cons, List.map_nil, Nat.le_refl, SM, r36_5,  d4, gk4, gc4, b4, b4']
  refine (pstates_spec m4.2 (hl.ext x4 kk)).imp ?_
  rintro v g5 ⟨rfl, m5⟩
  have x5 := x4.trans m5.1
  by_cases d5 : statesB n costs.length leaves = true
  rotate_left
  · have e : whyB n js costs leaves = 2 := by rw [whyB, if_pos ⟨d1, by rw [hcb]; exact d4⟩, if_neg d5]
    rw [e]
    simp only [↓SP, SQ, SG, SL, ↓reduceIte, undef, iop, isShift, Nat.reduceEqDiff, reduceCtorEq, Nat.reduceAdd, Nat.reduceMul, Nat.reduceSub, Nat.reduceLT, Nat.reduceLeDiff, Int.reduceLT, Int.reduceLE, Int.reduceEq, Int.reduceGT, Int.reduceGE, Int.reduceNeg, Int.reduceToNat, ne_eq, if_true, if_false, List.map_cons, List.map_nil, Nat.le_refl, SM, r36_6,  d5]
    exact ⟨⟨_, rfl, fun x => by first | exact x.elim | omega⟩, x5⟩
  have e : whyB n js costs leaves = 0 := by rw [whyB, if_pos ⟨d1, by rw [hcb]; exact d4⟩, if_pos d5]
  rw [e]
  have gk5 : g5.get (h.next + 1) = some { cells := [.int .i64 costs.length], esz := 0 } := by rw [m5.1.get _ (m4.2.lt gk4)]; exact gk4
  have gc5 : g5.get h.next = some { cells := [c], esz := 0 } := by rw [m5.1.get _ (m4.2.lt gc4)]; exact gc4
  have b5 : g5.base ≤ h.next := by rw [m5.1.base]; exact b4
  have b5' : g5.base ≤ h.next + 1 := by omega
  have hfc1 : (Value.func (.func 59) #[] #[.pointer (some ⟨h.next, 0, none⟩)]).cells.toList = [Value.func (.func 59) #[] #[.pointer (some ⟨h.next, 0, none⟩)]] := rfl
  simp only [↓SP, SQ, SG, SL, ↓reduceIte, undef, iop, isShift, Nat.reduceEqDiff, reduceCtorEq, Nat.reduceAdd, Nat.reduceMul, Nat.reduceSub, Nat.reduceLT, Nat.reduceLeDiff, Int.reduceLT, Int.reduceLE, Int.reduceEq, Int.reduceGT, Int.reduceGE, Int.reduceNeg, Int.reduceToNat, ne_eq, if_true, if_false, List.map_cons, List.map_nil, Nat.le_refl, SM, r36_7,  d5, gk5, gc5, b5, b5', hcj, hcl, hfc1, cells_int, cells_slice]
  refine ⟨⟨_, rfl, fun _ => ⟨g5.next, h.next, j, l, c, rfl, m5.2.le, b5, by simp [Heap.alloc], ?_, (hj.ext x5 kk).ext (.alloc _ _) m5.2, (hl.ext x5 kk).ext (.alloc _ _) m5.2, (hc.ext x5 kk).ext (.alloc _ _) m5.2⟩⟩, x5.alloc' _⟩
  rw [Heap.get_alloc, if_neg (by have := m5.2.lt gc5; omega)]; exact gc5

end Go.AM.K
