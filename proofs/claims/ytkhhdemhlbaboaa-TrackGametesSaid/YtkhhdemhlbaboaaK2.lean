/- Track: searches in slices; the program's test of a tree and of states. -/
import Derived.Test.YtkhhdemhlbaboaaAMS
import Derived.Test.YtkhhdemhlbaboaaK1
import Derived.Test.YtkhhdemhlbaboaaAM18
set_option linter.unusedVariables false
set_option linter.unusedSimpArgs false
set_option maxRecDepth 20000
namespace Go.AM.K
open Go.AM Go.AM.Fn Go.AM.TP
attribute [local congr] ite_cond

theorem index_spec {h : Heap} {l : Value} {xs : List Int} (hl : Ints h l xs) (x : Int) : Call T1 73 [l, .int .i64 x] h (fun v h' => ∃ r : Int, v = .int .i64 r ∧ (0 ≤ r ↔ x ∈ xs) ∧ h' = h) := by
  refine Call.of (fn := f73) rfl (by simp [f73]) ?_
  unfold f73
  have hlen := hl.len
  have hsm := hl.small
  simp only [↓SP, SQ, SG, SL, ↓reduceIte, undef, iop, isShift, Nat.reduceEqDiff, reduceCtorEq, Nat.reduceAdd, Nat.reduceMul, Nat.reduceSub, Nat.reduceLT, Nat.reduceLeDiff, Int.reduceLT, Int.reduceLE, Int.reduceEq, Int.reduceGT, Int.reduceGE, Int.reduceNeg, Int.reduceToNat, ne_eq, if_true, if_false, List.map_cons, List.map_nil, Nat.le_refl, SM, r73_0, r73_1,  hlen]
  refine wp_loopK Call.mono (fun q ρ g => g = h ∧ ∃ i : Nat, ρ 8 = .int .i64 i ∧ i + q = xs.length ∧ (x ∈ xs.drop i ↔ x ∈ xs)) ?_ (m := xs.length) ⟨rfl, 0, rfl, by omega, by simp⟩
  rintro q ρ g ⟨rfl, i, q8, hq, hin⟩ keep
  have ρ_0 : ρ 0 = l := by rw [keep 0 (of_decide_eq_true rfl)]; first | rfl | assumption
  have ρ_1 : ρ 1 = .int .i64 x := by rw [keep 1 (of_decide_eq_true rfl)]; first | rfl | assumption
  have ρ_7 : ρ 7 = .int .i64 xs.length := by rw [keep 7 (of_decide_eq_true rfl)]; first | rfl | assumption
  unfold b73_1
  by_cases hi : i < xs.length
  · obtain ⟨p, e1, e2⟩ := hl.row hi
    rw [List.drop_eq_getElem_cons hi, List.mem_cons] at hin
    by_cases he : x = xs[i]
    · simp only [↓SP, SQ, SG, SL, ↓reduceIte, undef, iop, isShift, Nat.reduceEqDiff, reduceCtorEq, Nat.reduceAdd, Nat.reduceMul, Nat.reduceSub, Nat.reduceLT, Nat.reduceLeDiff, Int.reduceLT, Int.reduceLE, Int.reduceEq, Int.reduceGT, Int.reduceGE, Int.reduceNeg, Int.reduceToNat, ne_eq, if_true, if_false, List.map_cons, List.map_nil, Nat.le_refl, SM, r73_0, r73_1, r73_2, r73_3, r73_4, r73_5, r73_6, r73_7, ρ_0, ρ_1, ρ_7, q8, hi, e1, e2, ← he]
      refine ⟨_, rfl, ?_⟩
      rw [← hin]
      constructor
      · intro _; exact .inl he
      · intro _; omega
    · simp only [↓SP, SQ, SG, SL, ↓reduceIte, undef, iop, isShift, Nat.reduceEqDiff, reduceCtorEq, Nat.reduceAdd, Nat.reduceMul, Nat.reduceSub, Nat.reduceLT, Nat.reduceLeDiff, Int.reduceLT, Int.reduceLE, Int.reduceEq, Int.reduceGT, Int.reduceGE, Int.reduceNeg, Int.reduceToNat, ne_eq, if_true, if_false, List.map_cons, List.map_nil, Nat.le_refl, SM, r73_0, r73_1, r73_2, r73_3, r73_4, r73_5, r73_6, r73_7, ρ_0, ρ_1, ρ_7, q8, hi, e1, e2, he, wrap_succ hi hsm]
      refine ⟨q - 1, by omega, i + 1, rfl, by omega, ?_⟩
      rw [← hin]; simp [he]
  · simp only [↓SP, SQ, SG, SL, ↓reduceIte, undef, iop, isShift, Nat.reduceEqDiff, reduceCtorEq, Nat.reduceAdd, Nat.reduceMul, Nat.reduceSub, Nat.reduceLT, Nat.reduceLeDiff, Int.reduceLT, Int.reduceLE, Int.reduceEq, Int.reduceGT, Int.reduceGE, Int.reduceNeg, Int.reduceToNat, ne_eq, if_true, if_false, List.map_cons, List.map_nil, Nat.le_refl, SM, r73_0, r73_1, r73_2, r73_3, r73_4, r73_5, r73_6, r73_7, ρ_0, ρ_1, ρ_7, q8, hi]
    refine ⟨_, rfl, ?_⟩
    rw [← hin, List.drop_of_length_le (by omega)]
    simp

theorem contains_spec {h : Heap} {l : Value} {xs : List Int} (hl : Ints h l xs) (x : Int) : Call T1 62 [l, .int .i64 x] h (fun v h' => v = .bool (decide (x ∈ xs)) ∧ h' = h) := by
  refine Call.of (fn := f62) rfl (by simp [f62]) ?_
  unfold f62
  simp only [↓SP, SQ, SG, SL, ↓reduceIte, undef, iop, isShift, Nat.reduceEqDiff, reduceCtorEq, Nat.reduceAdd, Nat.reduceMul, Nat.reduceSub, Nat.reduceLT, Nat.reduceLeDiff, Int.reduceLT, Int.reduceLE, Int.reduceEq, Int.reduceGT, Int.reduceGE, Int.reduceNeg, Int.reduceToNat, ne_eq, if_true, if_false, List.map_cons, List.map_nil, Nat.le_refl, SM, r62_0, r62_1]
  refine (index_spec hl x).imp ?_
  rintro v h' ⟨r, rfl, hr, rfl⟩
  by_cases h0 : 0 ≤ r
  · simp only [↓SP, SQ, SG, SL, ↓reduceIte, undef, iop, isShift, Nat.reduceEqDiff, reduceCtorEq, Nat.reduceAdd, Nat.reduceMul, Nat.reduceSub, Nat.reduceLT, Nat.reduceLeDiff, Int.reduceLT, Int.reduceLE, Int.reduceEq, Int.reduceGT, Int.reduceGE, Int.reduceNeg, Int.reduceToNat, ne_eq, if_true, if_false, List.map_cons, List.map_nil, Nat.le_refl, SM, r62_0, r62_1, h0, hr.1 h0]
  · have : x ∉ xs := fun hx => h0 (hr.2 hx)
    simp only [↓SP, SQ, SG, SL, ↓reduceIte, undef, iop, isShift, Nat.reduceEqDiff, reduceCtorEq, Nat.reduceAdd, Nat.reduceMul, Nat.reduceSub, Nat.reduceLT, Nat.reduceLeDiff, Int.reduceLT, Int.reduceLE, Int.reduceEq, Int.reduceGT, Int.reduceGE, Int.reduceNeg, Int.reduceToNat, ne_eq, if_true, if_false, List.map_cons, List.map_nil, Nat.le_refl, SM, r62_0, r62_1, h0, this]

theorem indexFunc_spec {h : Heap} (k : Ok h) {l : Value} {xs : List Int} (hl : Ints h l xs) {fid : Nat} {cap : List Value} {p : Int → Bool} (hf : ∀ x ∈ xs, ∀ g, More h g → Call T1 fid (.int .i64 x :: cap) g (fun v g' => v = .bool (p x) ∧ More g g')) :
    Call T1 69 [l, .func (.func fid) #[] cap.toArray] h (fun v h' => ∃ r : Int, v = .int .i64 r ∧ (0 ≤ r ↔ xs.any p = true) ∧ More h h') := by
  refine Call.of (fn := f69) rfl (by simp [f69]) ?_
  unfold f69
  have hlen := hl.len
  have hsm := hl.small
  simp only [↓SP, SQ, SG, SL, ↓reduceIte, undef, iop, isShift, Nat.reduceEqDiff, reduceCtorEq, Nat.reduceAdd, Nat.reduceMul, Nat.reduceSub, Nat.reduceLT, Nat.reduceLeDiff, Int.reduceLT, Int.reduceLE, Int.reduceEq, Int.reduceGT, Int.reduceGE, Int.reduceNeg, Int.reduceToNat, ne_eq, if_true, if_false, List.map_cons, List.map_nil, Nat.le_refl, SM, r69_0, r69_1,  hlen]
  refine wp_loopK Call.mono (fun q ρ g => More h g ∧ ∃ i : Nat, ρ 8 = .int .i64 i ∧ i + q = xs.length ∧ ((xs.drop i).any p = xs.any p)) ?_ (m := xs.length) ⟨.refl k, 0, rfl, by omega, by simp⟩
  rintro q ρ g ⟨mo, i, q8, hq, hin⟩ keep
  have ρ_0 : ρ 0 = l := by rw [keep 0 (of_decide_eq_true rfl)]; first | rfl | assumption
  have ρ_1 : ρ 1 = .func (.func fid) #[] cap.toArray := by rw [keep 1 (of_decide_eq_true rfl)]; first | rfl | assumption
  have ρ_7 : ρ 7 = .int .i64 xs.length := by rw [keep 7 (of_decide_eq_true rfl)]; first | rfl | assumption
  unfold b69_1
  by_cases hi : i < xs.length
  · obtain ⟨a, e1, e2⟩ := (hl.ext mo.1 k).row hi
    rw [List.drop_eq_getElem_cons hi, List.any_cons] at hin
    simp only [↓SP, SQ, SG, SL, ↓reduceIte, undef, iop, isShift, Nat.reduceEqDiff, reduceCtorEq, Nat.reduceAdd, Nat.reduceMul, Nat.reduceSub, Nat.reduceLT, Nat.reduceLeDiff, Int.reduceLT, Int.reduceLE, Int.reduceEq, Int.reduceGT, Int.reduceGE, Int.reduceNeg, Int.reduceToNat, ne_eq, if_true, if_false, List.map_cons, List.map_nil, Nat.le_refl, SM, r69_2, r69_3, r69_4,  ρ_0, ρ_1, ρ_7, q8, hi, e1, e2]
    refine (hf _ (List.getElem_mem hi) g mo).imp ?_
    rintro v g' ⟨rfl, mo'⟩
    cases hp : p xs[i] with
    | true =>
      simp only [↓SP, SQ, SG, SL, ↓reduceIte, undef, iop, isShift, Nat.reduceEqDiff, reduceCtorEq, Nat.reduceAdd, Nat.reduceMul, Nat.reduceSub, Nat.reduceLT, Nat.reduceLeDiff, Int.reduceLT, Int.reduceLE, Int.reduceEq, Int.reduceGT, Int.reduceGE, Int.reduceNeg, Int.reduceToNat, ne_eq, if_true, if_false, List.map_cons, List.map_nil, Nat.le_refl, SM, r69_0, r69_1, r69_2, r69_3, r69_4, r69_5, r69_6, r69_7, ρ_0, ρ_1, ρ_7, q8]
      refine ⟨_, rfl, ?_, mo.trans mo'⟩
      rw [← hin, hp]
      simp
    | false =>
      simp only [↓SP, SQ, SG, SL, ↓reduceIte, undef, iop, isShift, Nat.reduceEqDiff, reduceCtorEq, Nat.reduceAdd, Nat.reduceMul, Nat.reduceSub, Nat.reduceLT, Nat.reduceLeDiff, Int.reduceLT, Int.reduceLE, Int.reduceEq, Int.reduceGT, Int.reduceGE, Int.reduceNeg, Int.reduceToNat, ne_eq, if_true, if_false, List.map_cons, List.map_nil, Nat.le_refl, SM, r69_0, r69_1, r69_2, r69_3, r69_4, r69_5, r69_6, r69_7, ρ_0, ρ_1, ρ_7, q8, wrap_succ hi hsm]
      refine ⟨q - 1, by omega, mo.trans mo', i + 1, rfl, by omega, ?_⟩
      rw [← hin, hp, Bool.false_or]
  · simp only [↓SP, SQ, SG, SL, ↓reduceIte, undef, iop, isShift, Nat.reduceEqDiff, reduceCtorEq, Nat.reduceAdd, Nat.reduceMul, Nat.reduceSub, Nat.reduceLT, Nat.reduceLeDiff, Int.reduceLT, Int.reduceLE, Int.reduceEq, Int.reduceGT, Int.reduceGE, Int.reduceNeg, Int.reduceToNat, ne_eq, if_true, if_false, List.map_cons, List.map_nil, Nat.le_refl, SM, r69_0, r69_1, r69_2, r69_3, r69_4, r69_5, r69_6, r69_7, ρ_0, ρ_1, ρ_7, q8, hi]
    refine ⟨_, rfl, ?_, mo⟩
    rw [← hin, List.drop_of_length_le (by omega)]
    simp

theorem containsFunc_spec {h : Heap} (k : Ok h) {l : Value} {xs : List Int} (hl : Ints h l xs) {fid : Nat} {cap : List Value} {p : Int → Bool} (hf : ∀ x ∈ xs, ∀ g, More h g → Call T1 fid (.int .i64 x :: cap) g (fun v g' => v = .bool (p x) ∧ More g g')) :
    Call T1 56 [l, .func (.func fid) #[] cap.toArray] h (fun v h' => v = .bool (xs.any p) ∧ More h h') := by
  refine Call.of (fn := f56) rfl (by simp [f56]) ?_
  unfold f56
  simp only [↓SP, SQ, SG, SL, ↓reduceIte, undef, iop, isShift, Nat.reduceEqDiff, reduceCtorEq, Nat.reduceAdd, Nat.reduceMul, Nat.reduceSub, Nat.reduceLT, Nat.reduceLeDiff, Int.reduceLT, Int.reduceLE, Int.reduceEq, Int.reduceGT, Int.reduceGE, Int.reduceNeg, Int.reduceToNat, ne_eq, if_true, if_false, List.map_cons, List.map_nil, Nat.le_refl, SM, r56_0, r56_1]
  refine (indexFunc_spec k hl hf).imp ?_
  rintro v h' ⟨r, rfl, hr, mo⟩
  by_cases h0 : 0 ≤ r
  · simp only [↓SP, SQ, SG, SL, ↓reduceIte, undef, iop, isShift, Nat.reduceEqDiff, reduceCtorEq, Nat.reduceAdd, Nat.reduceMul, Nat.reduceSub, Nat.reduceLT, Nat.reduceLeDiff, Int.reduceLT, Int.reduceLE, Int.reduceEq, Int.reduceGT, Int.reduceGE, Int.reduceNeg, Int.reduceToNat, ne_eq, if_true, if_false, List.map_cons, List.map_nil, Nat.le_refl, SM, r56_0, r56_1, h0, hr.1 h0]
    exact mo
  · have : xs.any p = false := by
      cases e : xs.any p with
      | true => exact absurd (hr.2 e) h0
      | false => rfl
    simp only [↓SP, SQ, SG, SL, ↓reduceIte, undef, iop, isShift, Nat.reduceEqDiff, reduceCtorEq, Nat.reduceAdd, Nat.reduceMul, Nat.reduceSub, Nat.reduceLT, Nat.reduceLeDiff, Int.reduceLT, Int.reduceLE, Int.reduceEq, Int.reduceGT, Int.reduceGE, Int.reduceNeg, Int.reduceToNat, ne_eq, if_true, if_false, List.map_cons, List.map_nil, Nat.le_refl, SM, r56_0, r56_1, h0, this]
    exact mo

theorem states1_spec {h : Heap} {pk : Nat} {k x : Int} {e : Nat} (hb : h.base ≤ pk) (hg : h.get pk = some { cells := [.int .i64 k], esz := e }) : Call T1 63 [.int .i64 x, .pointer (some ⟨pk, 0, none⟩)] h (fun v h' => v = .bool (!decide (0 ≤ x ∧ x < k)) ∧ h' = h) := by
  refine Call.of (fn := f63) rfl (by simp [f63]) ?_
  unfold f63
  by_cases h1 : x < 0
  · have h2 : ¬ (0 ≤ x ∧ x < k) := by omega
    simp only [↓SP, SQ, SG, SL, ↓reduceIte, undef, iop, isShift, Nat.reduceEqDiff, reduceCtorEq, Nat.reduceAdd, Nat.reduceMul, Nat.reduceSub, Nat.reduceLT, Nat.reduceLeDiff, Int.reduceLT, Int.reduceLE, Int.reduceEq, Int.reduceGT, Int.reduceGE, Int.reduceNeg, Int.reduceToNat, ne_eq, if_true, if_false, List.map_cons, List.map_nil, Nat.le_refl, SM, r63_0, r63_1, h1, h2, decide_false]
  · by_cases h2 : k ≤ x
    · have h3 : ¬ (0 ≤ x ∧ x < k) := by omega
      simp only [↓SP, SQ, SG, SL, ↓reduceIte, undef, iop, isShift, Nat.reduceEqDiff, reduceCtorEq, Nat.reduceAdd, Nat.reduceMul, Nat.reduceSub, Nat.reduceLT, Nat.reduceLeDiff, Int.reduceLT, Int.reduceLE, Int.reduceEq, Int.reduceGT, Int.reduceGE, Int.reduceNeg, Int.reduceToNat, ne_eq, if_true, if_false, List.map_cons, List.map_nil, Nat.le_refl, SM, r63_0, r63_1, h1, h2, h3, hb, hg, decide_false]
    · have h3 : 0 ≤ x ∧ x < k := by omega
      simp only [↓SP, SQ, SG, SL, ↓reduceIte, undef, iop, isShift, Nat.reduceEqDiff, reduceCtorEq, Nat.reduceAdd, Nat.reduceMul, Nat.reduceSub, Nat.reduceLT, Nat.reduceLeDiff, Int.reduceLT, Int.reduceLE, Int.reduceEq, Int.reduceGT, Int.reduceGE, Int.reduceNeg, Int.reduceToNat, ne_eq, if_true, if_false, List.map_cons, List.map_nil, Nat.le_refl, SM, r63_0, r63_1, h1, h2, h3, hb, hg, decide_true, and_self]

theorem any_not_all (l : List Int) (p : Int → Bool) : (l.any fun x => !p x) = !l.all p := by
  induction l with
  | nil => rfl
  | cons a l ih => simp [ih]

theorem pstates_spec {h : Heap} (kk : Ok h) {n k : Int} {l : Value} {xs : List Int} (hl : Ints h l xs) : Call T1 46 [l, .int .i64 n, .int .i64 k] h (fun v h' => v = .bool (statesB n k xs) ∧ More h h') := by
  refine Call.more kk ?_
  refine Call.of (fn := f46) rfl (by simp [f46]) ?_
  unfold f46
  have hlen := hl.len
  have hx : Ext h (h.alloc { cells := [.int .i64 k], esz := 0 }) := .alloc _ _
  have k1 : Ok (h.alloc { cells := [.int .i64 k], esz := 0 }) := kk.alloc _
  by_cases hn : (xs.length : Int) = n
  · simp only [↓SP, SQ, SG, SL, ↓reduceIte, undef, iop, isShift, Nat.reduceEqDiff, reduceCtorEq, Nat.reduceAdd, Nat.reduceMul, Nat.reduceSub, Nat.reduceLT, Nat.reduceLeDiff, Int.reduceLT, Int.reduceLE, Int.reduceEq, Int.reduceGT, Int.reduceGE, Int.reduceNeg, Int.reduceToNat, ne_eq, if_true, if_false, List.map_cons, List.map_nil, Nat.le_refl, SM, r46_0, r46_1, hlen, hn]
    refine (containsFunc_spec k1 (hl.ext hx kk) (p := fun x => !decide (0 ≤ x ∧ x < k)) (cap := [.pointer (some ⟨h.next, 0, none⟩)]) (fun x _ g mo => ?_)).imp ?_
    · have hb : g.base ≤ h.next := by rw [mo.1.base]; exact kk.le
      have hg : g.get h.next = some { cells := [.int .i64 k], esz := 0 } := by rw [mo.1.get _ (by simp [Heap.alloc])]; simp [Heap.alloc]
      refine (states1_spec hb hg).imp ?_
      rintro v g' ⟨rfl, rfl⟩
      exact ⟨rfl, .refl mo.2⟩
    · rintro v g ⟨rfl, mo⟩
      simp only [↓SP, SQ, SG, SL, ↓reduceIte, undef, iop, isShift, Nat.reduceEqDiff, reduceCtorEq, Nat.reduceAdd, Nat.reduceMul, Nat.reduceSub, Nat.reduceLT, Nat.reduceLeDiff, Int.reduceLT, Int.reduceLE, Int.reduceEq, Int.reduceGT, Int.reduceGE, Int.reduceNeg, Int.reduceToNat, ne_eq, if_true, if_false, List.map_cons, List.map_nil, Nat.le_refl, SM]
      refine ⟨?_, hx.trans mo.1⟩
      rw [any_not_all]
      simp [statesB, hn]
  · simp only [↓SP, SQ, SG, SL, ↓reduceIte, undef, iop, isShift, Nat.reduceEqDiff, reduceCtorEq, Nat.reduceAdd, Nat.reduceMul, Nat.reduceSub, Nat.reduceLT, Nat.reduceLeDiff, Int.reduceLT, Int.reduceLE, Int.reduceEq, Int.reduceGT, Int.reduceGE, Int.reduceNeg, Int.reduceToNat, ne_eq, if_true, if_false, List.map_cons, List.map_nil, Nat.le_refl, SM, r46_0, r46_1, hlen, hn]
    refine ⟨?_, hx⟩
    simp [statesB, hn]

theorem rows_spec {h : Heap} (k : Ok h) {x : Value} {rows : List (List Int)} (hx : Mat h x rows) : Call T1 11 [x] h (fun v h' => OL eInts h h' v ((rows.take 9).map (·.take 9)) ∧ More h h') := by
  refine Call.more k ?_
  refine Call.of (fn := f11) rfl (by simp [f11]) ?_
  unfold f11
  have hlen := hx.len
  have hsm := hx.small
  simp only [↓SP, SQ, SG, SL, ↓reduceIte, undef, iop, isShift, Nat.reduceEqDiff, reduceCtorEq, Nat.reduceAdd, Nat.reduceMul, Nat.reduceSub, Nat.reduceLT, Nat.reduceLeDiff, Int.reduceLT, Int.reduceLE, Int.reduceEq, Int.reduceGT, Int.reduceGE, Int.reduceNeg, Int.reduceToNat, ne_eq, if_true, if_false, List.map_cons, List.map_nil, Nat.le_refl, SM, r11_0, r11_1, r11_2]
  refine wp_loopK Call.mono (fun q ρ g => Ext h g ∧ Ok g ∧ ∃ (i : Nat), ρ 4 = .int .i64 i ∧ i + q = min rows.length 9 ∧ OL eInts h g (ρ 3) ((rows.take i).map (·.take 9))) ?_ (m := min rows.length 9)
    ⟨.alloc _ _, k.alloc _, 0, rfl, by omega, OL.empty _ _ _ _⟩
  rintro q ρ g ⟨xg, kg, i, q4, hq, own⟩ keep
  have ρ_0 : ρ 0 = x := by rw [keep 0 (of_decide_eq_true rfl)]; first | rfl | assumption
  unfold b11_1
  by_cases hi : i < rows.length
  · by_cases hi2 : i ≤ 8
    · have hi2' : (i : Int) ≤ 8 := by omega
      obtain ⟨p, u, e1, e2, hu, hfu⟩ := (hx.ext xg k).row hi
      simp only [↓SP, SQ, SG, SL, ↓reduceIte, undef, iop, isShift, Nat.reduceEqDiff, reduceCtorEq, Nat.reduceAdd, Nat.reduceMul, Nat.reduceSub, Nat.reduceLT, Nat.reduceLeDiff, Int.reduceLT, Int.reduceLE, Int.reduceEq, Int.reduceGT, Int.reduceGE, Int.reduceNeg, Int.reduceToNat, ne_eq, if_true, if_false, List.map_cons, List.map_nil, Nat.le_refl, SM, r11_3, r11_5,  ρ_0, q4, hlen, hi, hi2', e1, e2]
      refine (cut_spec kg hu hfu).imp ?_
      rintro v g1 ⟨r1, f1, o1, c1, ob, m1⟩
      have hl : ((rows.take i).map (·.take 9)).length = i := by simp; omega
      obtain ⟨v', g', hap, own', ext', kg', _⟩ := OL.push m1.2 (Nat.le_trans xg.next m1.1.next) (own.step m1.1 kg) (eInts_mk r1 f1) (fun y hy j hj hp => by
        simp only [List.mem_singleton] at hy; subst hy
        have := ob j hj
        have := own.gblk_lt kg hp
        omega) (bytes := 24) (by rw [hl]; omega) (by rw [hl]; omega)
      simp only [rowOf_eq] at hap
      simp only [↓SP, SQ, SG, SL, ↓reduceIte, undef, iop, isShift, Nat.reduceEqDiff, reduceCtorEq, Nat.reduceAdd, Nat.reduceMul, Nat.reduceSub, Nat.reduceLT, Nat.reduceLeDiff, Int.reduceLT, Int.reduceLE, Int.reduceEq, Int.reduceGT, Int.reduceGE, Int.reduceNeg, Int.reduceToNat, ne_eq, if_true, if_false, List.map_cons, List.map_nil, Nat.le_refl, SM, r11_4,  ρ_0, q4, c1, hap, wrap_succ hi hsm]
      refine ⟨q - 1, by omega, ext' h (xg.trans m1.1) (Nat.le_refl _), kg', i + 1, rfl, by omega, ?_⟩
      rw [List.take_succ_eq_append_getElem hi, List.map_append]
      exact own'
    · have hi2' : ¬ (i : Int) ≤ 8 := by omega
      simp only [↓SP, SQ, SG, SL, ↓reduceIte, undef, iop, isShift, Nat.reduceEqDiff, reduceCtorEq, Nat.reduceAdd, Nat.reduceMul, Nat.reduceSub, Nat.reduceLT, Nat.reduceLeDiff, Int.reduceLT, Int.reduceLE, Int.reduceEq, Int.reduceGT, Int.reduceGE, Int.reduceNeg, Int.reduceToNat, ne_eq, if_true, if_false, List.map_cons, List.map_nil, Nat.le_refl, SM, r11_3, r11_6,  ρ_0, q4, hlen, hi, hi2']
      have : i = 9 := by omega
      subst this
      exact ⟨own, xg⟩
  · simp only [↓SP, SQ, SG, SL, ↓reduceIte, undef, iop, isShift, Nat.reduceEqDiff, reduceCtorEq, Nat.reduceAdd, Nat.reduceMul, Nat.reduceSub, Nat.reduceLT, Nat.reduceLeDiff, Int.reduceLT, Int.reduceLE, Int.reduceEq, Int.reduceGT, Int.reduceGE, Int.reduceNeg, Int.reduceToNat, ne_eq, if_true, if_false, List.map_cons, List.map_nil, Nat.le_refl, SM, r11_3, r11_6,  ρ_0, q4, hlen, hi]
    have hii : rows.take i = rows.take 9 := by rw [List.take_of_length_le (by omega), List.take_of_length_le (by omega)]
    rw [hii] at own
    exact ⟨own, xg⟩

theorem tree_spec {h : Heap} (k : Ok h) {n : Int} {j : Value} {js : List (Int × Int)} (hj : Pairs h j js) : Call T1 45 [.int .i64 n, j] h (fun v h' => v = .bool (treeB n js) ∧ More h h') := by
  refine Call.more k ?_
  refine Call.of (fn := f45) rfl (by simp [f45]) ?_
  unfold f45
  have hlen := hj.len
  have hsm := hj.small
  by_cases c1 : n < 2
  · have : treeB n js = false := by rw [treeB, decide_eq_false (by omega), Bool.false_and]
    simp only [↓SP, SQ, SG, SL, ↓reduceIte, undef, iop, isShift, Nat.reduceEqDiff, reduceCtorEq, Nat.reduceAdd, Nat.reduceMul, Nat.reduceSub, Nat.reduceLT, Nat.reduceLeDiff, Int.reduceLT, Int.reduceLE, Int.reduceEq, Int.reduceGT, Int.reduceGE, Int.reduceNeg, Int.reduceToNat, ne_eq, if_true, if_false, List.map_cons, List.map_nil, Nat.le_refl, SM, r45_0, r45_1, r45_2,  c1, hlen, this]
    exact .refl _
  by_cases c2 : 8 < n
  · have : treeB n js = false := by rw [treeB, decide_eq_false (by omega), Bool.false_and]
    simp only [↓SP, SQ, SG, SL, ↓reduceIte, undef, iop, isShift, Nat.reduceEqDiff, reduceCtorEq, Nat.reduceAdd, Nat.reduceMul, Nat.reduceSub, Nat.reduceLT, Nat.reduceLeDiff, Int.reduceLT, Int.reduceLE, Int.reduceEq, Int.reduceGT, Int.reduceGE, Int.reduceNeg, Int.reduceToNat, ne_eq, if_true, if_false, List.map_cons, List.map_nil, Nat.le_refl, SM, r45_0, r45_1, r45_2,  c1, c2, hlen, this]
    exact .refl _
  have w1 : IntKind.wrap .i64 (n - 1) = n - 1 := by rw [wrap_in] <;> omega
  by_cases c3 : (js.length : Int) = n - 1
  rotate_left
  · have : treeB n js = false := by rw [treeB, decide_eq_false (by omega), Bool.false_and]
    simp only [↓SP, SQ, SG, SL, ↓reduceIte, undef, iop, isShift, Nat.reduceEqDiff, reduceCtorEq, Nat.reduceAdd, Nat.reduceMul, Nat.reduceSub, Nat.reduceLT, Nat.reduceLeDiff, Int.reduceLT, Int.reduceLE, Int.reduceEq, Int.reduceGT, Int.reduceGE, Int.reduceNeg, Int.reduceToNat, ne_eq, if_true, if_false, List.map_cons, List.map_nil, Nat.le_refl, SM, r45_0, r45_1, r45_2,  c1, c2, c3, hlen, w1, this]
    exact .refl _
  have ht : treeB n js = joinsOk n 0 [] js := by rw [treeB, decide_eq_true (by omega), Bool.true_and]
  rw [ht]
  simp only [↓SP, SQ, SG, SL, ↓reduceIte, undef, iop, isShift, Nat.reduceEqDiff, reduceCtorEq, Nat.reduceAdd, Nat.reduceMul, Nat.reduceSub, Nat.reduceLT, Nat.reduceLeDiff, Int.reduceLT, Int.reduceLE, Int.reduceEq, Int.reduceGT, Int.reduceGE, Int.reduceNeg, Int.reduceToNat, ne_eq, if_true, if_false, List.map_cons, List.map_nil, Nat.le_refl, SM, r45_0, r45_1, r45_3, r45_4,  c1, c2, c3, hlen, w1]
  have hjl : js.length ≤ 7 := by omega
  refine wp_loopK Call.mono (fun q ρ g => Ext h g ∧ Ok g ∧ ∃ (i : Nat) (used : List Int), ρ 25 = .int .i64 i ∧ i + q = js.length ∧ used.length = 2 * i ∧ Own h g (ρ 5) used.length 1 (used.map (.int .i64)) ∧ joinsOk n i used (js.drop i) = joinsOk n 0 [] js) ?_ (m := js.length)
    ⟨.refl _, k, 0, [], rfl, by omega, rfl, Own.nil _ _ _, rfl⟩
  rintro q ρ g ⟨xg, kg, i, used, q25, hq, hu, own, hjo⟩ keep
  have ρ_0 : ρ 0 = .int .i64 n := by rw [keep 0 (of_decide_eq_true rfl)]; first | rfl | assumption
  have ρ_1 : ρ 1 = j := by rw [keep 1 (of_decide_eq_true rfl)]; first | rfl | assumption
  have ρ_23 : ρ 23 = j := by rw [keep 23 (of_decide_eq_true rfl)]; first | rfl | assumption
  have ρ_24 : ρ 24 = .int .i64 (n - 1) := by rw [keep 24 (of_decide_eq_true rfl)]; rfl
  unfold b45_2
  by_cases hi : i < js.length
  rotate_left
  · have hi' : ¬ (i : Int) < n - 1 := by omega
    simp only [↓SP, SQ, SG, SL, ↓reduceIte, undef, iop, isShift, Nat.reduceEqDiff, reduceCtorEq, Nat.reduceAdd, Nat.reduceMul, Nat.reduceSub, Nat.reduceLT, Nat.reduceLeDiff, Int.reduceLT, Int.reduceLE, Int.reduceEq, Int.reduceGT, Int.reduceGE, Int.reduceNeg, Int.reduceToNat, ne_eq, if_true, if_false, List.map_cons, List.map_nil, Nat.le_refl, SM, r45_5, r45_15,  ρ_0, ρ_1, ρ_23, ρ_24, q25, hi']
    rw [List.drop_of_length_le (by omega)] at hjo
    rw [← hjo]
    exact ⟨rfl, xg⟩
  have hi' : (i : Int) < n - 1 := by omega
  obtain ⟨p, e1, e2, _⟩ := Reads.elemN (enc := pairCells) (sz := 2) (fun _ => rfl) (Reads.ext xg k hj) hi
  rw [List.drop_eq_getElem_cons hi] at hjo
  generalize hab : js[i] = ab at *
  obtain ⟨a, b⟩ := ab
  simp only [joinsOk] at hjo
  have hn0 : g.base ≤ g.next := kg.le
  simp only [↓SP, SQ, SG, SL, ↓reduceIte, undef, iop, isShift, Nat.reduceEqDiff, reduceCtorEq, Nat.reduceAdd, Nat.reduceMul, Nat.reduceSub, Nat.reduceLT, Nat.reduceLeDiff, Int.reduceLT, Int.reduceLE, Int.reduceEq, Int.reduceGT, Int.reduceGE, Int.reduceNeg, Int.reduceToNat, ne_eq, if_true, if_false, List.map_cons, List.map_nil, Nat.le_refl, SM, r45_5, r45_6, r45_7,  ρ_0, ρ_1, ρ_23, ρ_24, q25, hi', e1, e2, pairCells, hn0, List.size_toArray, made_pair]
  have x1 : Ext g ((g.alloc { cells := [.int .i64 0, .int .i64 0], esz := 0 }).put g.next { cells := [.int .i64 a, .int .i64 b], esz := 0 }) := (Ext.alloc _ _).put (Nat.le_refl _) _
  have k1 : Ok ((g.alloc { cells := [.int .i64 0, .int .i64 0], esz := 0 }).put g.next { cells := [.int .i64 a, .int .i64 b], esz := 0 }) := (kg.alloc _).put (by simp [Heap.alloc]) _
  have x2 := x1.alloc' { cells := [.int .i64 a, .int .i64 b], esz := 0 }
  have k2 := k1.alloc { cells := [.int .i64 a, .int .i64 b], esz := 0 }
  have hsl : ((g.alloc { cells := [.int .i64 0, .int .i64 0], esz := 0 }).put g.next { cells := [.int .i64 a, .int .i64 b], esz := 0 }).next = g.next + 1 := rfl
  have hrow : Ints (((g.alloc { cells := [.int .i64 0, .int .i64 0], esz := 0 }).put g.next { cells := [.int .i64 a, .int .i64 b], esz := 0 }).alloc { cells := [.int .i64 a, .int .i64 b], esz := 0 }) (.slice (some ⟨g.next + 1, 0, none⟩) 2 2) [a, b] :=
    (Own.intsNew (h0 := g) x1 k1 [a, b] (n := 2) (by omega) rfl).ints.1
  have hlt2 : g.next + 1 < (((g.alloc { cells := [.int .i64 0, .int .i64 0], esz := 0 }).put g.next { cells := [.int .i64 a, .int .i64 b], esz := 0 }).alloc { cells := [.int .i64 a, .int .i64 b], esz := 0 }).next := by simp [Heap.alloc, Heap.put]
  generalize (((g.alloc { cells := [.int .i64 0, .int .i64 0], esz := 0 }).put g.next { cells := [.int .i64 a, .int .i64 b], esz := 0 }).alloc { cells := [.int .i64 a, .int .i64 b], esz := 0 }) = g2 at *
  have w3 : IntKind.wrap .i64 (n + (i : Int)) = n + i := by rw [wrap_in] <;> omega
  have w4 : IntKind.wrap .i64 ((i : Int) + 1) = ((i + 1 : Nat) : Int) := by rw [wrap_in] <;> omega
  have hu14 : used.length ≤ 12 := by omega
  -- what the rest of the join asks
  let rest : Nat → List Int → Bool := fun e us => match e with
    | 0 => decide (0 ≤ a ∧ a < n + i ∧ a ∉ us) && decide (0 ≤ b ∧ b < n + i ∧ b ∉ us ++ [a]) && joinsOk n (i + 1) (us ++ [a, b]) (js.drop (i + 1))
    | 1 => decide (0 ≤ b ∧ b < n + i ∧ b ∉ us) && joinsOk n (i + 1) (us ++ [b]) (js.drop (i + 1))
    | _ => joinsOk n (i + 1) us (js.drop (i + 1))
  refine wp_loopK Call.mono (fun q' ρ' g' => Ext h g' ∧ (Ints g' (.slice (some ⟨g.next + 1, 0, none⟩) 2 2) [a, b] ∧ g.next + 1 < g'.next ∧ ∀ z, GBlk (ρ' 5) z → z ≠ g.next + 1) ∧ Ok g' ∧ ∃ (e : Nat) (us : List Int), ρ' 36 = .int .i64 e ∧ e + q' = 2 ∧ us.length = 2 * i + e ∧ Own h g' (ρ' 5) us.length 1 (us.map (.int .i64)) ∧ rest e us = joinsOk n 0 [] js) ?_ (m := 2)
    ⟨xg.trans x2, ⟨hrow, hlt2, fun z hz => by have := own.gblk_lt kg hz; omega⟩, k2, 0, used, rfl, by omega, by omega, own.step x2 kg, hjo⟩
  rintro q' ρ' g' ⟨xh, ⟨hrow', hlt', hsep⟩, kg', e, us, r36, hq', hul, own', hrest⟩ keep
  have ρ'_0 : ρ' 0 = .int .i64 n := by rw [keep 0 (of_decide_eq_true rfl)]; first | rfl | assumption
  have ρ'_6 : ρ' 6 = .int .i64 i := by rw [keep 6 (of_decide_eq_true rfl)]; first | rfl | assumption
  have ρ'_23 : ρ' 23 = j := by rw [keep 23 (of_decide_eq_true rfl)]; first | rfl | assumption
  have ρ'_24 : ρ' 24 = .int .i64 (n - 1) := by rw [keep 24 (of_decide_eq_true rfl)]; first | rfl | assumption
  have ρ'_25 : ρ' 25 = .int .i64 i := by rw [keep 25 (of_decide_eq_true rfl)]; first | rfl | assumption
  have ρ'_34 : ρ' 34 = .slice (some ⟨g.next + 1, 0, none⟩) 2 2 := by rw [keep 34 (of_decide_eq_true rfl)]; rfl
  have ρ'_35 : ρ' 35 = .int .i64 2 := by rw [keep 35 (of_decide_eq_true rfl)]; rfl
  unfold b45_1
  by_cases he : e < 2
  · obtain ⟨x, hx, hstep⟩ : ∃ x, [a, b][e]? = some x ∧ rest e us = (decide (0 ≤ x ∧ x < n + i ∧ x ∉ us) && rest (e + 1) (us ++ [x])) := by
      rcases e with _ | _ | e
      · refine ⟨a, rfl, ?_⟩
        show (_ && _ && _) = (_ && (_ && _))
        rw [Bool.and_assoc, List.append_assoc]; rfl
      · exact ⟨b, rfl, rfl⟩
      · omega
    rw [hstep] at hrest
    have he' : (e : Int) < 2 := by omega
    obtain ⟨p, f1, f2⟩ := hrow'.row (i := e) (by simpa using he)
    have hxe : [a, b][e]'(by simpa using he) = x := by rw [List.getElem?_eq_getElem (by simpa using he)] at hx; simpa using hx
    rw [hxe] at f2
    have w5 : IntKind.wrap .i64 ((e : Int) + 1) = ((e + 1 : Nat) : Int) := by rw [wrap_in] <;> omega
    by_cases d1 : x < 0
    · rw [decide_eq_false (by omega), Bool.false_and] at hrest
      simp only [↓SP, SQ, SG, SL, ↓reduceIte, undef, iop, isShift, Nat.reduceEqDiff, reduceCtorEq, Nat.reduceAdd, Nat.reduceMul, Nat.reduceSub, Nat.reduceLT, Nat.reduceLeDiff, Int.reduceLT, Int.reduceLE, Int.reduceEq, Int.reduceGT, Int.reduceGE, Int.reduceNeg, Int.reduceToNat, ne_eq, if_true, if_false, List.map_cons, List.map_nil, Nat.le_refl, SM, r45_8, r45_9, r45_10, r45_11,  ρ'_0, ρ'_6, ρ'_23, ρ'_24, ρ'_25, ρ'_34, ρ'_35, r36, he', f1, f2, d1]
      rw [← hrest]
      exact ⟨rfl, xh⟩
    by_cases d2 : n + i ≤ x
    · rw [decide_eq_false (by omega), Bool.false_and] at hrest
      simp only [↓SP, SQ, SG, SL, ↓reduceIte, undef, iop, isShift, Nat.reduceEqDiff, reduceCtorEq, Nat.reduceAdd, Nat.reduceMul, Nat.reduceSub, Nat.reduceLT, Nat.reduceLeDiff, Int.reduceLT, Int.reduceLE, Int.reduceEq, Int.reduceGT, Int.reduceGE, Int.reduceNeg, Int.reduceToNat, ne_eq, if_true, if_false, List.map_cons, List.map_nil, Nat.le_refl, SM, r45_8, r45_9, r45_10, r45_11,  ρ'_0, ρ'_6, ρ'_23, ρ'_24, ρ'_25, ρ'_34, ρ'_35, r36, he', f1, f2, d1, d2, w3]
      rw [← hrest]
      exact ⟨rfl, xh⟩
    simp only [↓SP, SQ, SG, SL, ↓reduceIte, undef, iop, isShift, Nat.reduceEqDiff, reduceCtorEq, Nat.reduceAdd, Nat.reduceMul, Nat.reduceSub, Nat.reduceLT, Nat.reduceLeDiff, Int.reduceLT, Int.reduceLE, Int.reduceEq, Int.reduceGT, Int.reduceGE, Int.reduceNeg, Int.reduceToNat, ne_eq, if_true, if_false, List.map_cons, List.map_nil, Nat.le_refl, SM, r45_8, r45_9, r45_10,  ρ'_0, ρ'_6, ρ'_23, ρ'_24, ρ'_25, ρ'_34, ρ'_35, r36, he', f1, f2, d1, d2, w3]
    refine (contains_spec (xs := us) (own'.ints.1) x).imp ?_
    rintro v h' ⟨rfl, rfl⟩
    by_cases d3 : x ∈ us
    · rw [decide_eq_false (by simp [d3]), Bool.false_and] at hrest
      simp only [↓SP, SQ, SG, SL, ↓reduceIte, undef, iop, isShift, Nat.reduceEqDiff, reduceCtorEq, Nat.reduceAdd, Nat.reduceMul, Nat.reduceSub, Nat.reduceLT, Nat.reduceLeDiff, Int.reduceLT, Int.reduceLE, Int.reduceEq, Int.reduceGT, Int.reduceGE, Int.reduceNeg, Int.reduceToNat, ne_eq, if_true, if_false, List.map_cons, List.map_nil, Nat.le_refl, SM, r45_11,  ρ'_0, ρ'_6, ρ'_23, ρ'_24, ρ'_25, ρ'_34, ρ'_35, r36, d3]
      rw [← hrest]
      exact ⟨rfl, xh⟩
    · rw [decide_eq_true ⟨by omega, by omega, d3⟩, Bool.true_and] at hrest
      obtain ⟨v', g3, hap, own3, x3, k3, ov⟩ := Own.push3 (h0 := h) xh kg' (bytes := 8) (news := [.int .i64 x]) own' rfl rfl (by omega) (by omega) (by omega)
      simp only [↓SP, SQ, SG, SL, ↓reduceIte, undef, iop, isShift, Nat.reduceEqDiff, reduceCtorEq, Nat.reduceAdd, Nat.reduceMul, Nat.reduceSub, Nat.reduceLT, Nat.reduceLeDiff, Int.reduceLT, Int.reduceLE, Int.reduceEq, Int.reduceGT, Int.reduceGE, Int.reduceNeg, Int.reduceToNat, ne_eq, if_true, if_false, List.map_cons, List.map_nil, Nat.le_refl, SM, r45_12, r45_13,  ρ'_0, ρ'_6, ρ'_23, ρ'_24, ρ'_25, ρ'_34, ρ'_35, r36, d3, hap, w5]
      refine ⟨q' - 1, by omega, x3, ⟨hrow'.keep ov.base (fun z hz => ?_), by have := ov.next; omega, fun z hz => by have := own3.gblk hz; omega⟩, k3, e + 1, us ++ [x], rfl, by omega, by simp; omega, ?_, hrest⟩
      · obtain ⟨o, m, n', c, ez, _⟩ := hz
        simp only [Value.slice.injEq, Option.some.injEq, Addr.mk.injEq] at ez
        obtain ⟨⟨rfl, _⟩, _⟩ := ez
        exact ov.get _ hlt' (fun hp => hsep _ hp rfl)
      · simpa using own3.elder (Nat.le_trans xh.next (Nat.le_refl _))
  · have he' : ¬ (e : Int) < 2 := by omega
    have : e = 2 := by omega
    subst this
    simp only [↓SP, SQ, SG, SL, ↓reduceIte, undef, iop, isShift, Nat.reduceEqDiff, reduceCtorEq, Nat.reduceAdd, Nat.reduceMul, Nat.reduceSub, Nat.reduceLT, Nat.reduceLeDiff, Int.reduceLT, Int.reduceLE, Int.reduceEq, Int.reduceGT, Int.reduceGE, Int.reduceNeg, Int.reduceToNat, ne_eq, if_true, if_false, List.map_cons, List.map_nil, Nat.le_refl, SM, r45_8, r45_14,  ρ'_0, ρ'_6, ρ'_23, ρ'_24, ρ'_25, ρ'_34, ρ'_35, r36, w4, he']
    exact ⟨q - 1, by omega, xh, kg', i + 1, us, rfl, by omega, by omega, own', hrest⟩

end Go.AM.K
