/- Track: clones, deletions, all leaves. -/
import Derived.Test.YtkhhdemhlbaboaaAMS
import Derived.Test.YtkhhdemhlbaboaaK15
import Derived.Test.YtkhhdemhlbaboaaTP10
set_option linter.unusedVariables false
set_option linter.unusedSimpArgs false
set_option maxRecDepth 20000
namespace Go.AM.K
open Go.AM Go.AM.Fn Go.AM.TP
attribute [local congr] ite_cond

theorem all_spec {h : Heap} (kk : Ok h) {n : Nat} (hn : n ≤ 1000) {w : Value} (hw : lenA w = some n) : Call T1 51 [w] h (fun v h' => IL h h' v (upto n) ∧ More h h') := by
  refine (Call.more kk (R := fun v h' => IL h h' v (upto n)) ?_).imp (fun v h' ⟨a, b⟩ => ⟨a, b⟩)
  refine Call.of (fn := f51) rfl (by simp [f51]) ?_
  unfold f51
  simp only [↓SP, SQ, SG, SL, ↓reduceIte, undef, iop, isShift, Nat.reduceEqDiff, reduceCtorEq, Nat.reduceAdd, Nat.reduceMul, Nat.reduceSub, Nat.reduceLT, Nat.reduceLeDiff, Int.reduceLT, Int.reduceLE, Int.reduceEq, Int.reduceGT, Int.reduceGE, Int.reduceNeg, Int.reduceToNat, ne_eq, if_true, if_false, List.map_cons, List.map_nil, Nat.le_refl, SM, r51_0, r51_1, r51_2,  hw]
  refine wp_loopK Call.mono (fun q ρ g' => Ok g' ∧ Ext h g' ∧ ∃ (i : Nat) (u : Value), ρ 3 = u ∧ ρ 7 = .int .i64 i ∧ i + q = n ∧ IL h g' u (upto i)) ?_ (m := n) ⟨kk, .refl _, 0, _, rfl, rfl, by omega, Own.nil _ _ _⟩
  rintro q ρ g' ⟨kg, xg, i, u, q3, q7, hq, r⟩ keep
  have ρ_6 : ρ 6 = .int .i64 n := by rw [keep 6 (of_decide_eq_true rfl)]; first | rfl | assumption
  unfold b51_1
  by_cases hi : i < n
  · obtain ⟨v', g2, e, o, x2, k2, ov⟩ := r.push xg kg (by simp [upto]; omega) (i : Int)
    have hws : IntKind.wrap .i64 ((i : Int) + 1) = ((i + 1 : Nat) : Int) := by rw [wrap_in] <;> omega
    simp only [↓SP, SQ, SG, SL, ↓reduceIte, undef, iop, isShift, Nat.reduceEqDiff, reduceCtorEq, Nat.reduceAdd, Nat.reduceMul, Nat.reduceSub, Nat.reduceLT, Nat.reduceLeDiff, Int.reduceLT, Int.reduceLE, Int.reduceEq, Int.reduceGT, Int.reduceGE, Int.reduceNeg, Int.reduceToNat, ne_eq, if_true, if_false, List.map_cons, List.map_nil, Nat.le_refl, SM, r51_3, r51_4, r51_5, r51_6,  ρ_6, q3, q7, hi, e, hws]
    exact ⟨q - 1, by omega, k2, x2, i + 1, _, rfl, rfl, by omega, by rw [upto_succ]; exact o.elder xg.next⟩
  · have : i = n := by omega
    subst this
    simp only [↓SP, SQ, SG, SL, ↓reduceIte, undef, iop, isShift, Nat.reduceEqDiff, reduceCtorEq, Nat.reduceAdd, Nat.reduceMul, Nat.reduceSub, Nat.reduceLT, Nat.reduceLeDiff, Int.reduceLT, Int.reduceLE, Int.reduceEq, Int.reduceGT, Int.reduceGE, Int.reduceNeg, Int.reduceToNat, ne_eq, if_true, if_false, List.map_cons, List.map_nil, Nat.le_refl, SM, r51_3, r51_7,  ρ_6, q3, q7, Nat.lt_irrefl]
    exact ⟨r, xg⟩

/-- An append to an empty row. -/
theorem append_empty {h : Heap} {b m esz bytes : Nat} {x : Value} {news : List Value} (rx : Reads h x m esz news) (h1 : news.all (·.oneCell') = true) (hsz : esz ≠ 0) (hb : m * bytes ≤ 70368744177664) (hm : m ≠ 0) :
    appendA h esz bytes (.slice (some ⟨b, 0, none⟩) 0 0) x = some (.slice (some ⟨h.next, 0, some 0⟩) m 0, h.alloc { cells := news, esz := esz }) := by
  have hsm := rx.small
  unfold appendA
  rw [rx.len]
  simp only
  rw [if_neg hm]
  obtain ⟨bx, ox, mx, cx, rfl, hr⟩ := rx.at_ hm
  have hsrc : srcA h esz (.slice (some ⟨bx, ox, mx⟩) m cx) m = some news := by
    unfold srcA; rw [if_neg hm]; exact hr
  rw [hsrc]
  simp only [h1, if_true]
  rw [if_neg (by omega)]
  simp only [List.nil_append, Nat.zero_add]
  rw [if_pos ⟨hb, hsm, hsz⟩]
  rfl

theorem not_nil {h : Heap} {v : Value} {n esz : Nat} {cs : List Value} (r : Reads h v n esz cs) (hn : n ≠ 0) : eqA .slice v (.slice none 0 0) = some false := by
  obtain ⟨b, o, m, cap, rfl, _⟩ := r.at_ hn
  rfl

theorem cloneInts_spec {h : Heap} (kk : Ok h) {v : Value} {xs : List Int} (hv : Ints h v xs) (hne : xs ≠ []) (hl : xs.length ≤ 1000) :
    Call T1 66 [v] h (fun u h' => ∃ b, u = .slice (some ⟨b, 0, some 0⟩) xs.length 0 ∧ h'.get b = some { cells := xs.map (.int .i64), esz := 1 } ∧ h.next ≤ b ∧ More h h') := by
  refine (Call.more kk (R := fun u h' => ∃ b, u = .slice (some ⟨b, 0, some 0⟩) xs.length 0 ∧ h'.get b = some { cells := xs.map (.int .i64), esz := 1 } ∧ h.next ≤ b) ?_).imp (fun v h' ⟨⟨b, a, c, d⟩, e⟩ => ⟨b, a, c, d, e⟩)
  refine Call.of (fn := f66) rfl (by simp [f66]) ?_
  unfold f66
  have hz : xs.length ≠ 0 := fun e => hne (List.length_eq_zero_iff.1 e)
  have hnn := not_nil hv hz
  obtain ⟨x1, k1⟩ := ext_alloc0 kk
  have hap := append_empty (b := h.next) (bytes := 8) (Reads.ext x1 kk hv) (all_ints _ _) (by omega) (by omega) hz
  simp only [↓SP, SQ, SG, SL, ↓reduceIte, undef, iop, isShift, Nat.reduceEqDiff, reduceCtorEq, Nat.reduceAdd, Nat.reduceMul, Nat.reduceSub, Nat.reduceLT, Nat.reduceLeDiff, Int.reduceLT, Int.reduceLE, Int.reduceEq, Int.reduceGT, Int.reduceGE, Int.reduceNeg, Int.reduceToNat, ne_eq, if_true, if_false, List.map_cons, List.map_nil, Nat.le_refl, SM, r66_0, r66_1, r66_3,  hnn, hap]
  exact ⟨⟨_, rfl, by simp [Heap.alloc], by simp [Heap.alloc]⟩, x1.trans (.alloc _ _)⟩

theorem pairs_ones (js : List (Int × Int)) : (js.flatMap pairCells).all (·.oneCell') = true := by
  rw [List.all_eq_true]
  intro x hx
  obtain ⟨p, _, hp⟩ := List.mem_flatMap.1 hx
  simp only [pairCells, List.mem_cons, List.not_mem_nil, or_false] at hp
  rcases hp with rfl | rfl <;> rfl

theorem clonePairs_spec {h : Heap} (kk : Ok h) {v : Value} {js : List (Int × Int)} (hv : Pairs h v js) (hnil : js = [] → v = .slice none 0 0) (hl : js.length ≤ 1000) :
    Call T1 68 [v] h (fun u h' => PL h h' u js ∧ More h h') := by
  refine (Call.more kk (R := fun u h' => PL h h' u js) ?_).imp (fun v h' ⟨a, b⟩ => ⟨a, b⟩)
  refine Call.of (fn := f68) rfl (by simp [f68]) ?_
  unfold f68
  by_cases h0 : js = []
  · have e := hnil h0
    subst e
    subst h0
    simp only [↓SP, SQ, SG, SL, ↓reduceIte, undef, iop, isShift, Nat.reduceEqDiff, reduceCtorEq, Nat.reduceAdd, Nat.reduceMul, Nat.reduceSub, Nat.reduceLT, Nat.reduceLeDiff, Int.reduceLT, Int.reduceLE, Int.reduceEq, Int.reduceGT, Int.reduceGE, Int.reduceNeg, Int.reduceToNat, ne_eq, if_true, if_false, List.map_cons, List.map_nil, Nat.le_refl, SM, r68_0, r68_1, r68_2,  eqA, Option.isNone_none]
    exact ⟨Own.nil _ _ _, .refl _⟩
  have hz : js.length ≠ 0 := fun e => h0 (List.length_eq_zero_iff.1 e)
  have hnn := not_nil hv hz
  obtain ⟨x1, k1⟩ := ext_alloc0 kk
  have hr1 := Reads.ext x1 kk hv
  have hap := append_empty (b := h.next) (bytes := 16) hr1 (pairs_ones _) (by omega) (by omega) hz
  simp only [↓SP, SQ, SG, SL, ↓reduceIte, undef, iop, isShift, Nat.reduceEqDiff, reduceCtorEq, Nat.reduceAdd, Nat.reduceMul, Nat.reduceSub, Nat.reduceLT, Nat.reduceLeDiff, Int.reduceLT, Int.reduceLE, Int.reduceEq, Int.reduceGT, Int.reduceGE, Int.reduceNeg, Int.reduceToNat, ne_eq, if_true, if_false, List.map_cons, List.map_nil, Nat.le_refl, SM, r68_0, r68_1, r68_3,  hnn, hap]
  refine ⟨⟨hv.small, hr1.size, pairs_ones _, .inr ⟨_, 2, .inl ⟨rfl, rfl⟩, by simp [Heap.alloc], by simp [Heap.alloc], k1.le⟩⟩, x1.trans (.alloc _ _)⟩

theorem best1_spec {h : Heap} {p q : Nat} {a b x : Int} (ha : loadA h 1 false (.pointer (some ⟨p, 0, none⟩)) = some (.int .i64 a)) (hb : loadA h 1 false (.pointer (some ⟨q, 0, none⟩)) = some (.int .i64 b)) :
    Call T1 67 [.int .i64 x, .pointer (some ⟨p, 0, none⟩), .pointer (some ⟨q, 0, none⟩)] h (fun v h' => v = .bool (decide (x = a ∨ x = b)) ∧ h' = h) := by
  refine Call.of (fn := f67) rfl (by simp [f67]) ?_
  unfold f67
  by_cases h1 : x = a
  · simp only [↓SP, SQ, SG, SL, ↓reduceIte, undef, iop, isShift, Nat.reduceEqDiff, reduceCtorEq, Nat.reduceAdd, Nat.reduceMul, Nat.reduceSub, Nat.reduceLT, Nat.reduceLeDiff, Int.reduceLT, Int.reduceLE, Int.reduceEq, Int.reduceGT, Int.reduceGE, Int.reduceNeg, Int.reduceToNat, ne_eq, if_true, if_false, List.map_cons, List.map_nil, r67_0, r67_1, ha, h1]
  · by_cases h2 : x = b
    · have h3 : ¬ b = a := by rw [← h2]; exact h1
      simp only [↓SP, SQ, SG, SL, ↓reduceIte, undef, iop, isShift, Nat.reduceEqDiff, reduceCtorEq, Nat.reduceAdd, Nat.reduceMul, Nat.reduceSub, Nat.reduceLT, Nat.reduceLeDiff, Int.reduceLT, Int.reduceLE, Int.reduceEq, Int.reduceGT, Int.reduceGE, Int.reduceNeg, Int.reduceToNat, ne_eq, if_true, if_false, List.map_cons, List.map_nil, r67_0, r67_1, ha, hb, h2, h3]
    · simp only [↓SP, SQ, SG, SL, ↓reduceIte, undef, iop, isShift, Nat.reduceEqDiff, reduceCtorEq, Nat.reduceAdd, Nat.reduceMul, Nat.reduceSub, Nat.reduceLT, Nat.reduceLeDiff, Int.reduceLT, Int.reduceLE, Int.reduceEq, Int.reduceGT, Int.reduceGE, Int.reduceNeg, Int.reduceToNat, ne_eq, if_true, if_false, List.map_cons, List.map_nil, r67_0, r67_1, ha, hb, h1, h2]
      simp [h2]

/-- The first place with a property. -/
theorem first_spec {h : Heap} {l : Value} {xs : List Int} (hl : Ints h l xs) {fid : Nat} {cap : List Value} {p : Int → Bool} (hf : ∀ x ∈ xs, Call T1 fid (.int .i64 x :: cap) h (fun v g' => v = .bool (p x) ∧ g' = h)) {i : Nat} (hi : i < xs.length) (hp : p xs[i] = true) (hb : ∀ j, (hj : j < i) → p (xs[j]'(by omega)) = false) :
    Call T1 69 [l, .func (.func fid) #[] cap.toArray] h (fun v h' => v = .int .i64 i ∧ h' = h) := by
  refine Call.of (fn := f69) rfl (by simp [f69]) ?_
  unfold f69
  have hlen := hl.len
  have hsm := hl.small
  simp only [↓SP, SQ, SG, SL, ↓reduceIte, undef, iop, isShift, Nat.reduceEqDiff, reduceCtorEq, Nat.reduceAdd, Nat.reduceMul, Nat.reduceSub, Nat.reduceLT, Nat.reduceLeDiff, Int.reduceLT, Int.reduceLE, Int.reduceEq, Int.reduceGT, Int.reduceGE, Int.reduceNeg, Int.reduceToNat, ne_eq, if_true, if_false, List.map_cons, List.map_nil, Nat.le_refl, SM, r69_0, r69_1,  hlen]
  refine wp_loopK Call.mono (fun q ρ g => g = h ∧ ∃ j : Nat, ρ 8 = .int .i64 j ∧ j + q = i) ?_ (m := i) ⟨rfl, 0, rfl, by omega⟩
  rintro q ρ g ⟨rfl, j, q8, hq⟩ keep
  have ρ_0 : ρ 0 = l := by rw [keep 0 (of_decide_eq_true rfl)]; first | rfl | assumption
  have ρ_1 : ρ 1 = .func (.func fid) #[] cap.toArray := by rw [keep 1 (of_decide_eq_true rfl)]; first | rfl | assumption
  have ρ_7 : ρ 7 = .int .i64 xs.length := by rw [keep 7 (of_decide_eq_true rfl)]; first | rfl | assumption
  unfold b69_1
  have hj : j < xs.length := by omega
  obtain ⟨a, e1, e2⟩ := hl.row hj
  simp only [↓SP, SQ, SG, SL, ↓reduceIte, undef, iop, isShift, Nat.reduceEqDiff, reduceCtorEq, Nat.reduceAdd, Nat.reduceMul, Nat.reduceSub, Nat.reduceLT, Nat.reduceLeDiff, Int.reduceLT, Int.reduceLE, Int.reduceEq, Int.reduceGT, Int.reduceGE, Int.reduceNeg, Int.reduceToNat, ne_eq, if_true, if_false, List.map_cons, List.map_nil, Nat.le_refl, SM, r69_2, r69_3, r69_4,  ρ_0, ρ_1, ρ_7, q8, hj, e1, e2]
  refine (hf _ (List.getElem_mem hj)).imp ?_
  rintro v g' ⟨rfl, rfl⟩
  by_cases he : j = i
  · subst he
    simp only [↓SP, SQ, SG, SL, ↓reduceIte, undef, iop, isShift, Nat.reduceEqDiff, reduceCtorEq, Nat.reduceAdd, Nat.reduceMul, Nat.reduceSub, Nat.reduceLT, Nat.reduceLeDiff, Int.reduceLT, Int.reduceLE, Int.reduceEq, Int.reduceGT, Int.reduceGE, Int.reduceNeg, Int.reduceToNat, ne_eq, if_true, if_false, List.map_cons, List.map_nil, Nat.le_refl, SM, r69_0, r69_1, r69_2, r69_3, r69_4, r69_5, r69_6, r69_7, hp, ρ_0, ρ_1, ρ_7, q8]
  · simp only [↓SP, SQ, SG, SL, ↓reduceIte, undef, iop, isShift, Nat.reduceEqDiff, reduceCtorEq, Nat.reduceAdd, Nat.reduceMul, Nat.reduceSub, Nat.reduceLT, Nat.reduceLeDiff, Int.reduceLT, Int.reduceLE, Int.reduceEq, Int.reduceGT, Int.reduceGE, Int.reduceNeg, Int.reduceToNat, ne_eq, if_true, if_false, List.map_cons, List.map_nil, Nat.le_refl, SM, r69_0, r69_1, r69_2, r69_3, r69_4, r69_5, r69_6, r69_7, hb j (by omega), ρ_0, ρ_1, ρ_7, q8, wrap_succ hj hsm]
    exact ⟨q - 1, by omega, j + 1, rfl, by omega⟩

/-- A grown row that was cut. -/
structure Cut (h0 h : Heap) (v : Value) (xs : List Int) : Prop where
  out : ∃ b cells, v = .slice (some ⟨b, 0, some 0⟩) xs.length 0 ∧ h.get b = some { cells := cells, esz := 1 } ∧ xs.length ≤ cells.length ∧ cells.take xs.length = xs.map (.int .i64) ∧ h0.next ≤ b ∧ h.base ≤ b
theorem Cut.step {h0 h h' : Heap} (x : Ext h h') (k : Ok h) {v : Value} {xs : List Int} (r : Cut h0 h v xs) : Cut h0 h' v xs := by
  obtain ⟨b, cells, e, g1, g2, g3, g4, g5⟩ := r.out
  exact ⟨b, cells, e, by rw [x.get b (k.lt g1)]; exact g1, g2, g3, g4, by rw [x.base]; exact g5⟩

theorem Cut.push {h0 g : Heap} (x0 : Ext h0 g) (k : Ok g) {v : Value} {xs : List Int} (r : Cut h0 g v xs) (hn : xs.length ≤ 1000000) (x : Int) :
    ∃ v' g', appendA (g.alloc { cells := [.int .i64 x], esz := 0 }) 1 8 v (.slice (some ⟨g.next, 0, none⟩) 1 1) = some (v', g') ∧ IL g g' v' (xs ++ [x]) ∧ Ext h0 g' ∧ Ok g' ∧ Over g g' (GBlk v) := by
  obtain ⟨b, cells, rfl, g1, g2, g3, g4, g5⟩ := r.out
  have hbn := k.lt g1
  have hrd : (g.alloc { cells := [.int .i64 x], esz := 0 }).read g.next 0 (1 * 1) = some [.int .i64 x] := by
    have := read_own (h := g.alloc { cells := [.int .i64 x], esz := 0 }) (b := g.next) (blk := { cells := [.int .i64 x], esz := 0 }) (o := 0) (n := 1 * 1) (show (g.alloc { cells := [.int .i64 x], esz := 0 }).base ≤ g.next from k.le) (by simp [Heap.alloc]) (by simp)
    rw [this]; rfl
  have hg' : (g.alloc { cells := [.int .i64 x], esz := 0 }).get b = some { cells := cells, esz := 1 } := by simp only [Heap.alloc]; rw [if_neg (by omega)]; exact g1
  have hones : ((cells.take (xs.length * 1)).all (·.oneCell')) = true := by rw [Nat.mul_one, g3]; exact all_ints _ _
  refine ⟨.slice (some ⟨g.next + 1, 0, some 0⟩) (xs.length + 1) 0, ((g.alloc { cells := [.int .i64 x], esz := 0 }).kill b).alloc { cells := xs.map (.int .i64) ++ [.int .i64 x], esz := 1 }, ?_, ?_, ?_, ?_, ?_⟩
  · unfold appendA
    rw [lenA_slice]
    simp only [Nat.one_ne_zero, if_false]
    have hsrc : srcA (g.alloc { cells := [.int .i64 x], esz := 0 }) 1 (.slice (some ⟨g.next, 0, none⟩) 1 1) 1 = some [.int .i64 x] := by unfold srcA; rw [if_neg (by omega)]; exact hrd
    rw [hsrc]
    simp only [hg']
    rw [if_pos (show ([Value.int IntKind.i64 x].all fun x => x.oneCell') = true from rfl), if_pos ⟨show (g.alloc { cells := [.int .i64 x], esz := 0 }).base ≤ b from g5, trivial, by omega, by omega, by omega, by omega, hones⟩, Nat.mul_one, g3]
    rfl
  · refine ⟨by simp; omega, by simp, all_ints _ _, .inr ⟨g.next + 1, 1, .inl ⟨by simp, rfl⟩, ?_, by omega, ?_⟩⟩
    · simp [Heap.alloc, Heap.kill]
    · show g.base ≤ g.next + 1
      have := k.le; omega
  · refine ⟨x0.base, ?_, fun i hi => ?_⟩
    · have := x0.next; simp only [Heap.alloc, Heap.kill]; omega
    · have hn0 := x0.next
      have : ((((g.alloc { cells := [.int .i64 x], esz := 0 }).kill b).alloc { cells := xs.map (.int .i64) ++ [.int .i64 x], esz := 1 })).get i = if i = g.next + 1 then some { cells := xs.map (.int .i64) ++ [.int .i64 x], esz := 1 } else if i = b then none else if i = g.next then some { cells := [.int .i64 x], esz := 0 } else g.get i := rfl
      rw [this, if_neg (by omega), if_neg (by omega), if_neg (by omega)]
      exact x0.get i hi
  · exact ((k.alloc _).kill b).alloc _
  · refine ⟨rfl, by simp only [Heap.alloc, Heap.kill]; omega, fun i hi hp => ?_⟩
    have hib : i ≠ b := fun e => hp ⟨_, by rw [e]⟩
    have : ((((g.alloc { cells := [.int .i64 x], esz := 0 }).kill b).alloc { cells := xs.map (.int .i64) ++ [.int .i64 x], esz := 1 })).get i = if i = g.next + 1 then some { cells := xs.map (.int .i64) ++ [.int .i64 x], esz := 1 } else if i = b then none else if i = g.next then some { cells := [.int .i64 x], esz := 0 } else g.get i := rfl
    rw [this, if_neg (by omega), if_neg hib, if_neg (by omega)]

theorem made_int (k : IntKind) (x : Int) (n : Nat) : (made [.int k x] n).length = n ∧ (made [.int k x] n).all (·.oneCell') = true := by
  unfold made
  refine ⟨by simp, ?_⟩
  rw [List.all_eq_true]
  intro y hy
  obtain ⟨i, _, rfl⟩ := List.mem_map.1 hy
  simp [Nat.mod_one, Value.oneCell']

/-- The end of a grown row is cleared. -/
theorem clear_end {g : Heap} {b N a : Nat} {ys : List Int} (hg : g.get b = some { cells := ys.map (.int .i64), esz := 1 }) (hb : g.base ≤ b) (hl : ys.length = N) (ha : a < N) :
    ∃ v cells, (∀ ρ : Nat → Value, ρ 37 = .int .i64 a → sliceA 1 (.slice (some ⟨b, 0, some 0⟩) N 0) (some (.tmp 37)) none none ρ = some v) ∧ clearA g [.int .i64 0] v = some (.tuple #[], g.put b { cells := cells, esz := 1 }) ∧ a ≤ cells.length ∧ cells.take a = (ys.take a).map (.int .i64) := by
  by_cases h0 : a = 0
  · subst h0
    obtain ⟨m1, m2⟩ := made_int .i64 0 N
    refine ⟨.slice (some ⟨b, 0, some 0⟩) N 0, (ys.map (Value.int .i64)).take 0 ++ made [.int .i64 0] N ++ (ys.map (Value.int .i64)).drop (0 + (made [.int .i64 0] N).length), fun ρ hr => ?_, ?_, Nat.zero_le _, by simp⟩
    · simp only [sliceA, bnd_tmp hr, bnd_none]; simp
    · unfold clearA
      rw [lenA_slice]
      simp only [List.length_singleton, Nat.mul_one]
      rw [if_neg (by omega)]
      unfold Heap.write
      rw [hg]
      simp only
      rw [if_pos ⟨hb, by simp [m1, hl], m2⟩]
  · obtain ⟨m1, m2⟩ := made_int .i64 0 (N - a)
    refine ⟨.slice (some ⟨b, 0 + a * 1, some 1⟩) (N - a) 0, (ys.map (Value.int .i64)).take (0 + a * 1) ++ made [.int .i64 0] (N - a) ++ (ys.map (Value.int .i64)).drop (0 + a * 1 + (made [.int .i64 0] (N - a)).length), fun ρ hr => ?_, ?_, ?_, ?_⟩
    · simp only [sliceA, bnd_tmp hr, bnd_none]
      rw [if_pos ⟨by omega, by omega⟩, if_neg (by omega), if_neg (by omega), if_pos (.inl ⟨trivial, trivial⟩)]
    · unfold clearA
      rw [lenA_slice]
      simp only [List.length_singleton, Nat.mul_one]
      rw [if_neg (by omega)]
      unfold Heap.write
      rw [hg]
      simp only
      rw [if_pos ⟨hb, by simp [m1, hl]; omega, m2⟩]
    · simp [m1]; omega
    · have : ((ys.map (Value.int .i64)).take (0 + a * 1)).length = a := by simp; omega
      rw [List.append_assoc, List.take_append_of_le_length (by omega), ← List.map_take]
      simp [List.take_take]
theorem cut_head {b N a : Nat} (ha : a ≤ N) (ρ : Nat → Value) (hr : ρ 40 = .int .i64 a) : sliceA 1 (.slice (some ⟨b, 0, some 0⟩) N 0) none (some (.tmp 40)) none ρ = some (.slice (some ⟨b, 0, some 0⟩) a 0) := by
  simp only [sliceA, bnd_tmp hr, bnd_none]
  rw [if_pos ⟨by omega, ha⟩, if_pos ⟨trivial, trivial, trivial⟩]

def keepP (p : Int → Bool) (l : List Int) : List Int := l.filter fun x => !p x

set_option maxHeartbeats 2000000 in
/-- What a property deletes. -/
theorem delete_spec {h0 h : Heap} (kk : Ok h) (x0 : Ext h0 h) {b : Nat} {xs : List Int} (hg : h.get b = some { cells := xs.map (.int .i64), esz := 1 }) (hb0 : h0.next ≤ b) (hbb : h.base ≤ b) (hl : xs.length ≤ 1000) {fid : Nat} {cap : List Value} {p : Int → Bool}
    (hf : ∀ x ∈ xs, ∀ g, Over h g (fun i => i = b) → Call T1 fid (.int .i64 x :: cap) g (fun v g' => v = .bool (p x) ∧ g' = g)) {i : Nat} (hi : i < xs.length) (hp : p xs[i] = true) (hbf : ∀ j, (hj : j < i) → p (xs[j]'(by omega)) = false) :
    Call T1 65 [.slice (some ⟨b, 0, some 0⟩) xs.length 0, .func (.func fid) #[] cap.toArray] h (fun v h' => Cut h0 h' v (keepP p xs) ∧ Ext h0 h' ∧ Ok h') := by
  refine Call.of (fn := f65) rfl (by simp [f65]) ?_
  unfold f65
  have il0 : IL h0 h (.slice (some ⟨b, 0, some 0⟩) xs.length 0) xs := ⟨by omega, by simp, all_ints _ _, .inr ⟨b, 1, .inl ⟨rfl, rfl⟩, hg, hb0, hbb⟩⟩
  simp only [↓SP, SQ, SG, SL, ↓reduceIte, undef, iop, isShift, Nat.reduceEqDiff, reduceCtorEq, Nat.reduceAdd, Nat.reduceMul, Nat.reduceSub, Nat.reduceLT, Nat.reduceLeDiff, Int.reduceLT, Int.reduceLE, Int.reduceEq, Int.reduceGT, Int.reduceGE, Int.reduceNeg, Int.reduceToNat, ne_eq, if_true, if_false, List.map_cons, List.map_nil, Nat.le_refl, SM, r65_0, r65_1]
  refine (first_spec il0.ints (fun x hx => hf x hx h ⟨rfl, Nat.le_refl _, fun _ _ _ => rfl⟩) hi hp hbf).imp ?_
  rintro v h' ⟨rfl, rfl⟩
  have hne : ¬ (i : Int) = -1 := by omega
  have hws : IntKind.wrap .i64 ((i : Int) + 1) = ((i + 1 : Nat) : Int) := by rw [wrap_in] <;> omega
  simp only [↓SP, SQ, SG, SL, ↓reduceIte, undef, iop, isShift, Nat.reduceEqDiff, reduceCtorEq, Nat.reduceAdd, Nat.reduceMul, Nat.reduceSub, Nat.reduceLT, Nat.reduceLeDiff, Int.reduceLT, Int.reduceLE, Int.reduceEq, Int.reduceGT, Int.reduceGE, Int.reduceNeg, Int.reduceToNat, ne_eq, if_true, if_false, List.map_cons, List.map_nil, Nat.le_refl, SM, r65_2, r65_4,  hne, hws]
  have start : (keepP p (xs.take (i + 1))).length = i ∧ xs.take i = keepP p (xs.take (i + 1)) := by
    have h1 : keepP p (xs.take i) = xs.take i := by
      unfold keepP
      rw [List.filter_eq_self]
      intro y hy
      obtain ⟨j, hj, rfl⟩ := List.mem_iff_getElem.1 hy
      simp only [List.length_take] at hj
      rw [List.getElem_take, hbf j (by omega)]; rfl
    have h2 : keepP p (xs.take (i + 1)) = xs.take i := by
      rw [List.take_succ_eq_append_getElem hi]
      unfold keepP at h1 ⊢
      rw [List.filter_append, h1]
      simp [hp]
    rw [h2]
    exact ⟨by simp; omega, rfl⟩
  refine wp_loopK Call.mono (fun q ρ g => Ok g ∧ Over h' g (fun i => i = b) ∧ g.next = h'.next ∧ ∃ (a j : Nat) (ys : List Int), ρ 5 = .int .i64 a ∧ ρ 6 = .int .i64 j ∧ j + q = xs.length ∧ a < j ∧ ys.length = xs.length ∧ IL h0 g (.slice (some ⟨b, 0, some 0⟩) xs.length 0) ys ∧ a = (keepP p (xs.take j)).length ∧ ys.take a = keepP p (xs.take j) ∧ ys.drop j = xs.drop j) ?_ (m := xs.length - (i + 1))
    ⟨kk, ⟨rfl, Nat.le_refl _, fun _ _ _ => rfl⟩, rfl, i, i + 1, xs, rfl, rfl, by omega, by omega, rfl, il0, start.1.symm, start.2, rfl⟩
  rintro q ρ g ⟨kg, ov, hnx, a, j, ys, q5, q6, hq, haj, hyl, il, ha, hta, hdr⟩ keep
  have ρ_0 : ρ 0 = .slice (some ⟨b, 0, some 0⟩) xs.length 0 := by rw [keep 0 (of_decide_eq_true rfl)]; first | rfl | assumption
  have ρ_1 : ρ 1 = .func (.func fid) #[] cap.toArray := by rw [keep 1 (of_decide_eq_true rfl)]; first | rfl | assumption
  unfold b65_1
  by_cases hj : j < xs.length
  · obtain ⟨p1, e1, e2⟩ := il.ints.row (i := j) (by omega)
    have hv : ys[j]'(by omega) = xs[j] := by
      have h1 : (ys.drop j)[0]? = (xs.drop j)[0]? := by rw [hdr]
      rw [List.getElem?_drop, List.getElem?_drop, Nat.add_zero, List.getElem?_eq_getElem (by omega), List.getElem?_eq_getElem hj] at h1
      exact Option.some.inj h1
    rw [hv] at e2
    have hwj : IntKind.wrap .i64 ((j : Int) + 1) = ((j + 1 : Nat) : Int) := by rw [wrap_in] <;> omega
    have hwa : IntKind.wrap .i64 ((a : Int) + 1) = ((a + 1 : Nat) : Int) := by rw [wrap_in] <;> omega
    have htk : keepP p (xs.take (j + 1)) = keepP p (xs.take j) ++ (if p xs[j] = true then [] else [xs[j]]) := by
      unfold keepP
      rw [List.take_succ_eq_append_getElem hj, List.filter_append]
      congr 1
      by_cases hc : p xs[j] = true
      · simp [hc]
      · simp [hc]
    have hd1 : ∀ zs : List Int, zs.drop j = xs.drop j → zs.drop (j + 1) = xs.drop (j + 1) := fun zs h => by rw [← List.drop_drop, h, List.drop_drop]
    simp only [↓SP, SQ, SG, SL, ↓reduceIte, undef, iop, isShift, Nat.reduceEqDiff, reduceCtorEq, Nat.reduceAdd, Nat.reduceMul, Nat.reduceSub, Nat.reduceLT, Nat.reduceLeDiff, Int.reduceLT, Int.reduceLE, Int.reduceEq, Int.reduceGT, Int.reduceGE, Int.reduceNeg, Int.reduceToNat, ne_eq, if_true, if_false, List.map_cons, List.map_nil, Nat.le_refl, SM, r65_5, r65_7, r65_8,  ρ_0, ρ_1, q6, hj, e1, e2]
    refine (hf _ (List.getElem_mem hj) g ov).imp ?_
    rintro v g' ⟨rfl, rfl⟩
    cases hpj : p xs[j] with
    | true =>
      rw [if_pos hpj, List.append_nil] at htk
      simp only [↓SP, SQ, SG, SL, ↓reduceIte, undef, iop, isShift, Nat.reduceEqDiff, reduceCtorEq, Nat.reduceAdd, Nat.reduceMul, Nat.reduceSub, Nat.reduceLT, Nat.reduceLeDiff, Int.reduceLT, Int.reduceLE, Int.reduceEq, Int.reduceGT, Int.reduceGE, Int.reduceNeg, Int.reduceToNat, ne_eq, if_true, if_false, List.map_cons, List.map_nil, Nat.le_refl, SM, r65_6,  q5, q6, hwj]
      exact ⟨q - 1, by omega, kg, ov, hnx, a, j + 1, ys, rfl, rfl, by omega, by omega, hyl, il, by rw [htk]; exact ha, by rw [htk]; exact hta, hd1 _ hdr⟩
    | false =>
      rw [if_neg (by rw [hpj]; decide)] at htk
      obtain ⟨p2, g2, e3, e4, ow, k2, ov2, hn2⟩ := Own.set kg il (i := a) (by omega) (x := .int .i64 xs[j]) rfl rfl
      have il2 : IL h0 g2 (.slice (some ⟨b, 0, some 0⟩) xs.length 0) (ys.set a xs[j]) := by
        unfold IL
        have : (ys.set a xs[j]).map (Value.int .i64) = (ys.map (Value.int .i64)).set a (.int .i64 xs[j]) := List.map_set
        rw [this, List.length_set]; exact ow
      have e4' : storeA g' 1 p2 (.int .i64 xs[j]) = some (undef, g2) := e4
      simp only [↓SP, SQ, SG, SL, ↓reduceIte, undef, iop, isShift, Nat.reduceEqDiff, reduceCtorEq, Nat.reduceAdd, Nat.reduceMul, Nat.reduceSub, Nat.reduceLT, Nat.reduceLeDiff, Int.reduceLT, Int.reduceLE, Int.reduceEq, Int.reduceGT, Int.reduceGE, Int.reduceNeg, Int.reduceToNat, ne_eq, if_true, if_false, List.map_cons, List.map_nil, Nat.le_refl, SM, r65_6, r65_9, r65_10,  ρ_0, q5, q6, e3, e4', hwj, hwa]
      refine ⟨q - 1, by omega, k2, ⟨ov2.base.trans ov.base, Nat.le_trans ov.next ov2.next, fun z hz hzb => ?_⟩, hn2.trans hnx, a + 1, j + 1, ys.set a xs[j], rfl, rfl, by omega, by omega, by simp [hyl], il2, by rw [htk]; simp [ha], ?_, ?_⟩
      · rw [ov2.get z (by omega) (fun ⟨o, m, n, c, e, _⟩ => hzb (by simp at e; try exact e.1.1.symm)), ov.get z hz hzb]
      · rw [htk, ← hta, List.take_succ_eq_append_getElem (by simp; omega), List.take_set_of_le (Nat.le_refl _)]
        simp
      · rw [List.drop_set_of_lt (by omega)]; exact hd1 _ hdr
  · have hjl : j = xs.length := by omega
    subst hjl
    rw [List.take_length] at ha hta
    have hgb : g.get b = some { cells := ys.map (.int .i64), esz := 1 } ∧ g.base ≤ b := by
      rcases il.at_ with ⟨hv | ⟨c, hv⟩, _⟩ | ⟨c, e, ⟨hv, rfl⟩ | ⟨hv, rfl⟩, h1, h2, h3⟩
      · simp at hv
      · simp at hv
      · simp only [Value.slice.injEq, Option.some.injEq, Addr.mk.injEq] at hv
        rw [hv.1.1]; exact ⟨h1, h3⟩
      · simp at hv
    obtain ⟨v1, cells, s1, s2, s3, s4⟩ := clear_end hgb.1 hgb.2 hyl haj
    have s5 := fun ρ : Nat → Value => cut_head (b := b) (N := xs.length) (a := a) (by omega) ρ
    simp only [↓SP, SQ, SG, SL, ↓reduceIte, undef, iop, isShift, Nat.reduceEqDiff, reduceCtorEq, Nat.reduceAdd, Nat.reduceMul, Nat.reduceSub, Nat.reduceLT, Nat.reduceLeDiff, Int.reduceLT, Int.reduceLE, Int.reduceEq, Int.reduceGT, Int.reduceGE, Int.reduceNeg, Int.reduceToNat, ne_eq, if_true, if_false, List.map_cons, List.map_nil, r65_5, r65_11, r65_12,  ρ_0, ρ_1, q5, q6, Nat.lt_irrefl, s1, s2, s5]
    refine ⟨⟨b, cells, by rw [ha], by simp [Heap.put], by rw [← ha]; exact s3, by rw [← ha, s4, hta], hb0, hgb.2⟩, ?_, kg.put (kg.lt hgb.1) _⟩
    have xg : Ext h0 g := ov.ext x0 (fun z hz => by rw [hz]; exact hb0)
    exact xg.put hb0 _

/-- A valid table. -/
structure TabOk (n m : Nat) (t : List (List Int)) : Prop where
  n2 : 2 ≤ n
  n5 : n ≤ 5
  m1 : 1 ≤ m
  m6 : m ≤ 6
  len : t.length = n
  row : ∀ r ∈ t, statesB m 4 r = true

theorem TabOk.col {n m : Nat} {t : List (List Int)} (T : TabOk n m t) {c : Nat} (hc : c < m) : statesB n 4 (colN t c) = true := by
  simp only [statesB, Bool.and_eq_true, decide_eq_true_eq, List.all_eq_true, colN, List.length_map, T.len, true_and]
  intro x hx
  obtain ⟨r, hr, rfl⟩ := List.mem_map.1 hx
  have h := T.row r hr
  simp only [statesB, Bool.and_eq_true, decide_eq_true_eq, List.all_eq_true] at h
  have hl : c < r.length := by omega
  rw [getD_in hl]
  exact h.2 _ (List.getElem_mem hl)

theorem lenN_small {n m : Nat} {t : List (List Int)} (T : TabOk n m t) {J : List (Int × Int)} (ht : treeB n J = true) : ∀ c, c ≤ m → lenN t J c ≤ 2100 * c
  | 0, _ => by simp [lenN]
  | c + 1, hc => by
    have ih := lenN_small T ht c (by omega)
    have := (fitch_least (by have := T.n5; omega) (k := 4) (by omega) ht (T.col (by omega : c < m))).2.2.1
    rw [lenN]; omega

set_option maxHeartbeats 2000000 in
theorem length_spec {h : Heap} (kk : Ok h) {n m : Nat} {t : List (List Int)} (T : TabOk n m t) {w0 w1 : Value} (hT : Mat h w0 t) {J : List (Int × Int)} (hJ : Pairs h w1 J) (ht : treeB n J = true) :
    Call T1 54 [w1, w0] h (fun v h' => v = .int .i64 (lenN t J m) ∧ More h h') := by
  refine Call.more kk ?_
  have hn5 := T.n5
  have hm6 := T.m6
  have htl := T.len
  refine Call.of (fn := f54) rfl (by simp [f54]) ?_
  unfold f54
  have len0 := hT.len
  rw [htl] at len0
  have rowl : ∀ {i : Nat} (hi : i < t.length), t[i].length = m := fun {i} hi => by
    have h := T.row _ (List.getElem_mem hi)
    simp only [statesB, Bool.and_eq_true, decide_eq_true_eq] at h; omega
  have h0 : 0 < t.length := by have := T.n2; omega
  obtain ⟨p, u, a1, a2, a3, _⟩ := hT.row h0
  have a4 := a3.len
  rw [rowl h0] at a4
  have a1' : iaddrA 1 w0 (.int .i64 0) = some p := a1
  simp only [↓SP, SQ, SG, SL, ↓reduceIte, undef, iop, isShift, Nat.reduceEqDiff, reduceCtorEq, Nat.reduceAdd, Nat.reduceMul, Nat.reduceSub, Nat.reduceLT, Nat.reduceLeDiff, Int.reduceLT, Int.reduceLE, Int.reduceEq, Int.reduceGT, Int.reduceGE, Int.reduceNeg, Int.reduceToNat, ne_eq, if_true, if_false, List.map_cons, List.map_nil, Nat.le_refl, SM, r54_0, r54_1, r54_2,  a1', a2, a4]
  refine wp_loopK Call.mono (fun q ρ g => Ok g ∧ Ext h g ∧ ∃ c : Nat, ρ 16 = .int .i64 c ∧ ρ 5 = .int .i64 (lenN t J c) ∧ c + q = m) ?_ (m := m) ⟨kk, .refl _, 0, rfl, rfl, by omega⟩
  rintro q ρ g ⟨kg, xg, c, q16, q5, hq⟩ keep
  have ρ_0 : ρ 0 = w1 := by rw [keep 0 (of_decide_eq_true rfl)]; first | rfl | assumption
  have ρ_1 : ρ 1 = w0 := by rw [keep 1 (of_decide_eq_true rfl)]; first | rfl | assumption
  have ρ_15 : ρ 15 = .int .i64 m := by rw [keep 15 (of_decide_eq_true rfl)]; first | rfl | assumption
  unfold b54_2
  by_cases hc : c < m
  rotate_left
  · have : c = m := by omega
    subst this
    simp only [↓SP, SQ, SG, SL, ↓reduceIte, undef, iop, isShift, Nat.reduceEqDiff, reduceCtorEq, Nat.reduceAdd, Nat.reduceMul, Nat.reduceSub, Nat.reduceLT, Nat.reduceLeDiff, Int.reduceLT, Int.reduceLE, Int.reduceEq, Int.reduceGT, Int.reduceGE, Int.reduceNeg, Int.reduceToNat, ne_eq, if_true, if_false, List.map_cons, List.map_nil, Nat.le_refl, SM, r54_3, r54_14,  ρ_15, q16, q5, Nat.lt_irrefl]
    exact xg
  simp only [↓SP, SQ, SG, SL, ↓reduceIte, undef, iop, isShift, Nat.reduceEqDiff, reduceCtorEq, Nat.reduceAdd, Nat.reduceMul, Nat.reduceSub, Nat.reduceLT, Nat.reduceLeDiff, Int.reduceLT, Int.reduceLE, Int.reduceEq, Int.reduceGT, Int.reduceGE, Int.reduceNeg, Int.reduceToNat, ne_eq, if_true, if_false, List.map_cons, List.map_nil, Nat.le_refl, SM, r54_3, r54_4, r54_5, r54_6,  ρ_1, ρ_15, q16, q5, hc, len0]
  refine wp_doneK Call.mono (R := fun e ρ g' => e = .exit 2 ∧ Ok g' ∧ Ext g g' ∧ IL g g' (ρ 7) (colN t c)) (wp_loopK Call.mono (fun q ρ g' => Ok g' ∧ Ext g g' ∧ ∃ (i : Nat) (w : Value), ρ 7 = w ∧ ρ 21 = .int .i64 i ∧ i + q = n ∧ IL g g' w (colN (t.take i) c)) ?_ (m := n) ⟨kg, .refl _, 0, _, rfl, rfl, by omega, Own.nil _ _ _⟩) ?_
  · rintro q' ρ2 g' ⟨kg', xg', i, w, q7, q21, hq', r⟩ keep'
    have ρ2_6 : ρ2 6 = .int .i64 c := by rw [keep' 6 (of_decide_eq_true rfl)]; rfl
    have ρ2_19 : ρ2 19 = w0 := by rw [keep' 19 (of_decide_eq_true rfl)]; rfl
    have ρ2_20 : ρ2 20 = .int .i64 n := by rw [keep' 20 (of_decide_eq_true rfl)]; rfl
    unfold b54_1
    by_cases hi : i < n
    rotate_left
    · have : i = n := by omega
      subst this
      rw [List.take_of_length_le (by omega)] at r
      simp only [↓SP, SQ, SG, SL, ↓reduceIte, undef, iop, isShift, Nat.reduceEqDiff, reduceCtorEq, Nat.reduceAdd, Nat.reduceMul, Nat.reduceSub, Nat.reduceLT, Nat.reduceLeDiff, Int.reduceLT, Int.reduceLE, Int.reduceEq, Int.reduceGT, Int.reduceGE, Int.reduceNeg, Int.reduceToNat, ne_eq, if_true, if_false, List.map_cons, List.map_nil, Nat.le_refl, SM, r54_7,  ρ2_20, q7, q21, Nat.lt_irrefl]
      exact ⟨kg', xg', r⟩
    have hit : i < t.length := by omega
    obtain ⟨p1, u1, b1, b2, b3, _⟩ := (hT.ext (xg.trans xg') kk).row hit
    obtain ⟨p2, b4, b5⟩ := b3.row (i := c) (by rw [rowl hit]; exact hc)
    have hws : IntKind.wrap .i64 ((i : Int) + 1) = ((i + 1 : Nat) : Int) := by rw [wrap_in] <;> omega
    have hcl : c < t[i].length := by rw [rowl hit]; exact hc
    obtain ⟨v', g3, e, o, x3, k3, ov⟩ := r.push xg' kg' (by simp [colN]; omega) (t[i][c])
    have hnx : colN (t.take (i + 1)) c = colN (t.take i) c ++ [t[i][c]] := by
      rw [List.take_succ_eq_append_getElem hit, colN, List.map_append]
      simp only [List.map_cons, List.map_nil, getD_in hcl]
      rfl
    simp only [↓SP, SQ, SG, SL, ↓reduceIte, undef, iop, isShift, Nat.reduceEqDiff, reduceCtorEq, Nat.reduceAdd, Nat.reduceMul, Nat.reduceSub, Nat.reduceLT, Nat.reduceLeDiff, Int.reduceLT, Int.reduceLE, Int.reduceEq, Int.reduceGT, Int.reduceGE, Int.reduceNeg, Int.reduceToNat, ne_eq, if_true, if_false, List.map_cons, List.map_nil, Nat.le_refl, SM, r54_7, r54_8, r54_9, r54_10,  ρ2_6, ρ2_19, ρ2_20, q7, q21, hi, b1, b2, b4, b5, e, hws]
    exact ⟨q' - 1, by omega, k3, x3, i + 1, _, rfl, rfl, by omega, by rw [hnx]; exact o.elder xg'.next⟩
  rintro e ρ4 g4 ⟨rfl, kg4, xg4, r4⟩ keep4
  have k0 := (keep4 0 (of_decide_eq_true rfl)).trans ρ_0
  have k5 := (keep4 5 (of_decide_eq_true rfl)).trans q5
  have k16 := (keep4 16 (of_decide_eq_true rfl)).trans q16
  generalize hw7 : ρ4 7 = w7 at *
  have x4 := xg.trans xg4
  simp only [↓SP, SQ, SG, SL, ↓reduceIte, undef, iop, isShift, Nat.reduceEqDiff, reduceCtorEq, Nat.reduceAdd, Nat.reduceMul, Nat.reduceSub, Nat.reduceLT, Nat.reduceLeDiff, Int.reduceLT, Int.reduceLE, Int.reduceEq, Int.reduceGT, Int.reduceGE, Int.reduceNeg, Int.reduceToNat, ne_eq, if_true, if_false, List.map_cons, List.map_nil, Nat.le_refl, SM, r54_11,  k0, hw7]
  refine (fitch_spec (k := 4) kg4 (by omega) (by decide) (hJ.ext x4 kk) ht r4.ints (T.col hc)).imp ?_
  rintro v g5 ⟨w, rfl, _, m5⟩
  have hls := lenN_small T ht (c + 1) (by omega)
  have hlen : lenN t J (c + 1) = lenN t J c + (fitchN (bitsOf (colN t c)) 0 J).2 := rfl
  have hws : IntKind.wrap .i64 ((c : Int) + 1) = ((c + 1 : Nat) : Int) := by rw [wrap_in] <;> omega
  have hwl : IntKind.wrap .i64 ((lenN t J c : Int) + ((fitchN (bitsOf (colN t c)) 0 J).2 : Int)) = ((lenN t J (c + 1) : Nat) : Int) := by rw [wrap_in] <;> omega
  simp only [↓SP, SQ, SG, SL, ↓reduceIte, undef, iop, isShift, Nat.reduceEqDiff, reduceCtorEq, Nat.reduceAdd, Nat.reduceMul, Nat.reduceSub, Nat.reduceLT, Nat.reduceLeDiff, Int.reduceLT, Int.reduceLE, Int.reduceEq, Int.reduceGT, Int.reduceGE, Int.reduceNeg, Int.reduceToNat, ne_eq, if_true, if_false, List.map_cons, List.map_nil, Nat.le_refl, SM, r54_11, r54_12, r54_13,  List.getElem?_toArray, k5, k16, hwl, hws]
  exact ⟨q - 1, by omega, m5.2, x4.trans m5.1, c + 1, rfl, rfl, by omega⟩

/-- What is left after two are deleted. -/
theorem keep_rest {op : List Int} (hn : op.Nodup) {i j : Nat} (hi : i < op.length) (hj : j < op.length) : keepP (fun x => decide (x = op.getD i 0 ∨ x = op.getD j 0)) op = restN op i j op.length := by
  have key : ∀ m, m ≤ op.length → keepP (fun x => decide (x = op.getD i 0 ∨ x = op.getD j 0)) (op.take m) = restN op i j m := by
    intro m
    induction m with
    | zero => intro _; rfl
    | succ m ih =>
      intro hm
      have ih := ih (by omega)
      rw [List.take_succ_eq_append_getElem (by omega), restN]
      unfold keepP at ih ⊢
      rw [List.filter_append, ih]
      have eg : op.getD m 0 = op[m] := getD_in (by omega) 0
      by_cases h : m ≠ i ∧ m ≠ j
      · rw [if_pos h, eg]
        have h1 : ¬ op[m] = op.getD i 0 := fun e => h.1 (getD_inj hn (by omega) hi (by rw [eg]; exact e))
        have h2 : ¬ op[m] = op.getD j 0 := fun e => h.2 (getD_inj hn (by omega) hj (by rw [eg]; exact e))
        clear ih
        generalize op.getD i 0 = A at *
        generalize op.getD j 0 = B at *
        simp [h1, h2]
      · rw [if_neg h]
        have h3 : op[m] = op.getD i 0 ∨ op[m] = op.getD j 0 := by
          by_cases e : m = i
          · left; rw [← e, eg]
          · right; have : m = j := by omega
            rw [← this, eg]
        clear ih
        generalize op.getD i 0 = A at *
        generalize op.getD j 0 = B at *
        simp
        intro h4
        exact h3.resolve_left h4
  have := key op.length (Nat.le_refl _)
  rwa [List.take_length] at this

end Go.AM.K
