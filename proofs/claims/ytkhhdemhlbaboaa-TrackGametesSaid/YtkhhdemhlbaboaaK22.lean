/- Track: how the laws derive tables. -/
import Derived.Test.YtkhhdemhlbaboaaAMS
import Derived.Test.YtkhhdemhlbaboaaK20
import Derived.Test.YtkhhdemhlbaboaaTP11
import Derived.Test.YtkhhdemhlbaboaaK16
set_option linter.unusedVariables false
set_option linter.unusedSimpArgs false
set_option maxRecDepth 20000
namespace Go.AM.K
open Go.AM Go.AM.Fn Go.AM.TP
attribute [local congr] ite_cond

/-- The states that are derived from numbers. -/
def numT (m k : Nat) (xs : List Int) (a d : Nat) : Int := if a * m + d < xs.length then (xs.getD (a * m + d) 0).tmod k else 0
theorem numT_bd {m k : Nat} (hk : 1 ≤ k ∧ k ≤ 1000) {xs : List Int} (hx : ∀ x ∈ xs, 0 ≤ x ∧ x < 256) (i j : Nat) : 0 ≤ numT m k xs i j ∧ numT m k xs i j < k := by
  unfold numT
  split
  · rename_i h
    rw [getD_in h]
    have hb := hx _ (List.getElem_mem h)
    have := mod_small hb.1 hb.2 (k := k) (by omega) (by omega)
    omega
  · omega

set_option maxHeartbeats 1000000 in
theorem tableRow {ρ : Nat → Value} {g0 g : Heap} (k0 : Ok g0) (kg : Ok g) (xg : Ext g0 g) {x w : Value} {xs : List Int} (hx : Bytes g0 x xs) {n m k a : Nat} (hn : n ≤ 6) (hm : 1 ≤ m ∧ m ≤ 6) (hk : 1 ≤ k ∧ k ≤ 4) (ha : a < n) (h1 : ρ 1 = .int .i64 m) (h2 : ρ 2 = .int .i64 k) (h3 : ρ 3 = x) (h10 : ρ 10 = .int .i64 a) (h11 : ρ 11 = w) (hw : IL g0 g w []) (h12 : ρ 12 = .int .i64 0) :
    wpC (Call T1) (.loop b26_1) (fun e ρ' g' => e = .exit 2 ∧ Ok g' ∧ Ext g0 g' ∧ IL g0 g' (ρ' 11) (rowF m (numT m k xs) a)) ρ g := by
  have hlen := hx.1.len
  have hsm := hx.1.small
  refine wp_loopK Call.mono (fun q ρ g' => Ok g' ∧ Ext g0 g' ∧ ∃ (d : Nat) (u : Value), ρ 11 = u ∧ ρ 12 = .int .i64 d ∧ d + q = m ∧ IL g0 g' u ((List.range d).map (numT m k xs a))) ?_ (m := m) ⟨kg, xg, 0, w, h11, h12, by omega, hw⟩
  rintro q ρ1 g' ⟨kg', xg', d, u, q11, q12, hq, r⟩ keep
  have ρ1_1 : ρ1 1 = .int .i64 m := by rw [keep 1 (of_decide_eq_true rfl)]; exact h1
  have ρ1_2 : ρ1 2 = .int .i64 k := by rw [keep 2 (of_decide_eq_true rfl)]; exact h2
  have ρ1_3 : ρ1 3 = x := by rw [keep 3 (of_decide_eq_true rfl)]; exact h3
  have ρ1_10 : ρ1 10 = .int .i64 a := by rw [keep 10 (of_decide_eq_true rfl)]; exact h10
  unfold b26_1
  by_cases hd : d < m
  rotate_left
  · have : d = m := by omega
    subst this
    simp only [↓SP, SQ, SG, SL, ↓reduceIte, undef, iop, isShift, Nat.reduceEqDiff, reduceCtorEq, Nat.reduceAdd, Nat.reduceMul, Nat.reduceSub, Nat.reduceLT, Nat.reduceLeDiff, Int.reduceLT, Int.reduceLE, Int.reduceEq, Int.reduceGT, Int.reduceGE, Int.reduceNeg, Int.reduceToNat, ne_eq, if_true, if_false, List.map_cons, List.map_nil, Nat.le_refl, SM, r26_7,  ρ1_1, q11, q12, Nat.lt_irrefl]
    exact ⟨kg', xg', r⟩
  have hws : IntKind.wrap .i64 ((d : Int) + 1) = ((d + 1 : Nat) : Int) := by rw [wrap_in] <;> omega
  have hak : a * m ≤ 30 := Nat.le_trans (Nat.mul_le_mul (show a ≤ 5 by omega) hm.2) (by decide)
  have f1 : IntKind.wrap .i64 ((a : Int) * (m : Int)) = ((a * m : Nat) : Int) := by rw [← Int.natCast_mul, wrap_in] <;> omega
  have f2 : IntKind.wrap .i64 (((a * m : Nat) : Int) + (d : Int)) = ((a * m + d : Nat) : Int) := by rw [wrap_in] <;> omega
  have hnext := rowF_take m (numT m k xs) a d
  have hk0 : ¬ (k : Int) = 0 := by omega
  by_cases hl : a * m + d < xs.length
  · obtain ⟨p, a1, a2⟩ := (hx.1.ext xg' k0).row hl
    have hb := hx.2 _ (List.getElem_mem hl)
    have hwx : IntKind.wrap .i64 xs[a * m + d] = xs[a * m + d] := by rw [wrap_in] <;> omega
    have hn : xs[a * m + d].tmod k = numT m k xs a d := by rw [numT, if_pos hl, getD_in hl]
    obtain ⟨v', g2, e, o, x2, k2, ov⟩ := r.push xg' kg' (by simp; omega) (numT m k xs a d)
    rw [← hnext] at o
    generalize a * m + d = at_ at *
    simp only [↓SP, SQ, SG, SL, ↓reduceIte, undef, iop, isShift, Nat.reduceEqDiff, reduceCtorEq, Nat.reduceAdd, Nat.reduceMul, Nat.reduceSub, Nat.reduceLT, Nat.reduceLeDiff, Int.reduceLT, Int.reduceLE, Int.reduceEq, Int.reduceGT, Int.reduceGE, Int.reduceNeg, Int.reduceToNat, ne_eq, if_true, if_false, List.map_cons, List.map_nil, Nat.le_refl, SM, r26_7, r26_8, r26_9, r26_10, r26_11, r26_12, r26_13,  ρ1_1, ρ1_2, ρ1_3, ρ1_10, q11, q12, hd, f1, f2, hl, hlen, a1, a2, hwx, hk0, hn, e, hws]
    exact ⟨q - 1, by omega, k2, x2, d + 1, _, rfl, rfl, by omega, o.elder xg'.next⟩
  · have hn : 0 = numT m k xs a d := by rw [numT, if_neg hl]
    obtain ⟨v', g2, e, o, x2, k2, ov⟩ := r.push xg' kg' (by simp; omega) (numT m k xs a d)
    rw [← hnext] at o
    rw [← hn] at e
    generalize a * m + d = at_ at *
    simp only [↓SP, SQ, SG, SL, ↓reduceIte, undef, iop, isShift, Nat.reduceEqDiff, reduceCtorEq, Nat.reduceAdd, Nat.reduceMul, Nat.reduceSub, Nat.reduceLT, Nat.reduceLeDiff, Int.reduceLT, Int.reduceLE, Int.reduceEq, Int.reduceGT, Int.reduceGE, Int.reduceNeg, Int.reduceToNat, ne_eq, if_true, if_false, List.map_cons, List.map_nil, Nat.le_refl, SM, r26_7, r26_8, r26_9, r26_10, r26_11, r26_13,  ρ1_1, ρ1_2, ρ1_3, ρ1_10, q11, q12, hd, f1, f2, hl, hlen, e, hws]
    exact ⟨q - 1, by omega, k2, x2, d + 1, _, rfl, rfl, by omega, o.elder xg'.next⟩

/-- A table. -/
def tabF (n m : Nat) (f : Nat → Nat → Int) : List (List Int) := (List.range n).map (rowF m f)
theorem tabF_ok {n m : Nat} (n2 : 2 ≤ n) (n5 : n ≤ 5) (hm : 1 ≤ m ∧ m ≤ 6) {f : Nat → Nat → Int} (h : ∀ i j, 0 ≤ f i j ∧ f i j < 4) : TabOk n m (tabF n m f) := by
  refine ⟨n2, n5, hm.1, hm.2, by simp [tabF], fun r hr => ?_⟩
  obtain ⟨a, _, rfl⟩ := List.mem_map.1 hr
  simp only [statesB, rowF_length, Bool.and_eq_true, decide_eq_true_eq, List.all_eq_true]
  refine ⟨trivial, fun c hc => ?_⟩
  obtain ⟨d, _, rfl⟩ := List.mem_map.1 hc
  exact h a d

set_option maxHeartbeats 1000000 in
theorem table_spec {h : Heap} (kk : Ok h) {n m k : Nat} (hn : n ≤ 6) (hm : 1 ≤ m ∧ m ≤ 6) (hk : 1 ≤ k ∧ k ≤ 4) {x : Value} {xs : List Int} (hx : Bytes h x xs) :
    Call T1 26 [.int .i64 n, .int .i64 m, .int .i64 k, x] h (fun v h' => OM h h' v n (rowF m (numT m k xs)) ∧ More h h') := by
  refine (Call.more kk (R := fun v h' => OM h h' v n (rowF m (numT m k xs))) ?_).imp (fun v h' ⟨a, b⟩ => ⟨a, b⟩)
  refine Call.of (fn := f26) rfl (by simp [f26]) ?_
  unfold f26
  obtain ⟨xa, ka⟩ := ext_alloc0 kk
  have e1 := fun rows => OM.empty h (h.alloc { cells := [], esz := 0 }) h.next rows
  simp only [↓SP, SQ, SG, SL, ↓reduceIte, undef, iop, isShift, Nat.reduceEqDiff, reduceCtorEq, Nat.reduceAdd, Nat.reduceMul, Nat.reduceSub, Nat.reduceLT, Nat.reduceLeDiff, Int.reduceLT, Int.reduceLE, Int.reduceEq, Int.reduceGT, Int.reduceGE, Int.reduceNeg, Int.reduceToNat, ne_eq, if_true, if_false, List.map_cons, List.map_nil, Nat.le_refl, SM, r26_0, r26_1, r26_2]
  generalize h.alloc { cells := [], esz := 0 } = g at *
  refine wp_loopK Call.mono (fun q ρ g' => Ok g' ∧ Ext h g' ∧ ∃ (a : Nat) (u : Value), ρ 9 = u ∧ ρ 10 = .int .i64 a ∧ a + q = n ∧ OM h g' u a (rowF m (numT m k xs))) ?_ (m := n) ⟨ka, xa, 0, _, rfl, rfl, by omega, e1 _⟩
  rintro q ρ1 g' ⟨kg', xg', a, u, q9, q10, hq, r⟩ keep
  have ρ1_0 : ρ1 0 = .int .i64 n := by rw [keep 0 (of_decide_eq_true rfl)]; first | rfl | assumption
  have ρ1_1 : ρ1 1 = .int .i64 m := by rw [keep 1 (of_decide_eq_true rfl)]; first | rfl | assumption
  have ρ1_2 : ρ1 2 = .int .i64 k := by rw [keep 2 (of_decide_eq_true rfl)]; first | rfl | assumption
  have ρ1_3 : ρ1 3 = x := by rw [keep 3 (of_decide_eq_true rfl)]; first | rfl | assumption
  unfold b26_2
  by_cases ha : a < n
  rotate_left
  · have : a = n := by omega
    subst this
    simp only [↓SP, SQ, SG, SL, ↓reduceIte, undef, iop, isShift, Nat.reduceEqDiff, reduceCtorEq, Nat.reduceAdd, Nat.reduceMul, Nat.reduceSub, Nat.reduceLT, Nat.reduceLeDiff, Int.reduceLT, Int.reduceLE, Int.reduceEq, Int.reduceGT, Int.reduceGE, Int.reduceNeg, Int.reduceToNat, ne_eq, if_true, if_false, List.map_cons, List.map_nil, Nat.le_refl, SM, r26_3, r26_15,  ρ1_0, q9, q10, Nat.lt_irrefl]
    exact ⟨r, xg'⟩
  obtain ⟨x4, k4⟩ := ext_alloc0 kg'
  simp only [↓SP, SQ, SG, SL, ↓reduceIte, undef, iop, isShift, Nat.reduceEqDiff, reduceCtorEq, Nat.reduceAdd, Nat.reduceMul, Nat.reduceSub, Nat.reduceLT, Nat.reduceLeDiff, Int.reduceLT, Int.reduceLE, Int.reduceEq, Int.reduceGT, Int.reduceGE, Int.reduceNeg, Int.reduceToNat, ne_eq, if_true, if_false, List.map_cons, List.map_nil, Nat.le_refl, SM, r26_3, r26_5, r26_6,  ρ1_0, q9, q10, ha]
  refine wp_doneK Call.mono (tableRow kg' k4 x4 (hx.ext xg' kk) hn hm hk ha ρ1_1 ρ1_2 ρ1_3 q10 rfl (IL.empty _ _ _) rfl) ?_
  rintro e ρ4 g4 ⟨rfl, kg4, xg4, r4⟩ keep4
  have k9 := (keep4 9 (of_decide_eq_true rfl)).trans q9
  have k10 := (keep4 10 (of_decide_eq_true rfl)).trans q10
  have hws : IntKind.wrap .i64 ((a : Int) + 1) = ((a + 1 : Nat) : Int) := by rw [wrap_in] <;> omega
  obtain ⟨v5, g5, e5, r5, x5, k5, ov5⟩ := r.push kg' xg' xg4 kg4 r4 (by intro e; have := congrArg List.length e; simp [rowF_length] at this; omega) (by omega)
  have fc := r4.fit.cell
  generalize hw11 : ρ4 11 = w11 at *
  simp only [↓SP, SQ, SG, SL, ↓reduceIte, undef, iop, isShift, Nat.reduceEqDiff, reduceCtorEq, Nat.reduceAdd, Nat.reduceMul, Nat.reduceSub, Nat.reduceLT, Nat.reduceLeDiff, Int.reduceLT, Int.reduceLE, Int.reduceEq, Int.reduceGT, Int.reduceGE, Int.reduceNeg, Int.reduceToNat, ne_eq, if_true, if_false, List.map_cons, List.map_nil, Nat.le_refl, SM, r26_4, r26_14,  k9, k10, hw11, fc, e5, hws]
  refine ⟨q - 1, by omega, k5, x5, a + 1, _, rfl, rfl, by omega, OM.congr (fun i hi => ?_) r5⟩
  by_cases e : i = a
  · rw [if_pos e, e]
  · rw [if_neg e]

/-- How many members a small set has. -/
def cnt (S : Nat) : Nat := (bitList 4 S).length

set_option maxHeartbeats 1000000 in
theorem members_spec {h : Heap} (kk : Ok h) {S : Nat} (hS : S < 16) : Call T1 28 [.int .i64 S] h (fun v h' => IL h h' v (bitList 4 S) ∧ More h h') := by
  refine (Call.more kk (R := fun v h' => IL h h' v (bitList 4 S)) ?_).imp (fun v h' ⟨a, b⟩ => ⟨a, b⟩)
  refine Call.of (fn := f28) rfl (by simp [f28]) ?_
  unfold f28
  obtain ⟨x1, k1⟩ := ext_alloc0 kk
  have e1 := IL.empty h (h.alloc { cells := [], esz := 0 }) h.next
  simp only [↓SP, SQ, SG, SL, ↓reduceIte, undef, iop, isShift, Nat.reduceEqDiff, reduceCtorEq, Nat.reduceAdd, Nat.reduceMul, Nat.reduceSub, Nat.reduceLT, Nat.reduceLeDiff, Int.reduceLT, Int.reduceLE, Int.reduceEq, Int.reduceGT, Int.reduceGE, Int.reduceNeg, Int.reduceToNat, ne_eq, if_true, if_false, List.map_cons, List.map_nil, Nat.le_refl, SM, r28_0, r28_1, r28_2]
  generalize h.alloc { cells := [], esz := 0 } = g at *
  refine wp_loopK Call.mono (fun q ρ g' => Ok g' ∧ Ext h g' ∧ ∃ (i : Nat) (w : Value), ρ 3 = w ∧ ρ 4 = .int .i64 i ∧ i + q = 4 ∧ IL h g' w (bitList i S)) ?_ (m := 4) ⟨k1, x1, 0, _, rfl, rfl, by omega, e1⟩
  rintro q ρ g' ⟨kg, xg, i, w, q3, q4, hq, r⟩ keep
  have ρ_0 : ρ 0 = .int .i64 S := by rw [keep 0 (of_decide_eq_true rfl)]; first | rfl | assumption
  unfold b28_1
  have hi0 : ¬ (i : Int) < 0 := by omega
  have fin : ∀ i : Nat, i < 5 → ∀ S : Nat, S < 16 → ((0 : Int) < Int.fdiv (S : Int) (2 ^ (min i (IntKind.bits .i64))) ↔ i < 4 ∧ S / 2 ^ i ≠ 0) ∧ (S / 2 ^ i = 0 → bitList i S = bitList 4 S) := by decide +kernel
  obtain ⟨f1, f2⟩ := fin i (by omega) S hS
  by_cases hd : (0 : Int) < Int.fdiv (S : Int) (2 ^ (min i (IntKind.bits .i64)))
  · have hi := (f1.1 hd).1
    have hws : IntKind.wrap .i64 ((i : Int) + 1) = ((i + 1 : Nat) : Int) := by rw [wrap_in] <;> omega
    have hsh := shr_code hS (s := i) hi
    have hbl := bitList_succ i S
    by_cases hb : S.testBit i = true
    · rw [if_pos hb] at hsh hbl
      obtain ⟨v5, g5, e5, r5, x5, k5, _⟩ := r.push xg kg (by have := bitList_length i S; omega) (i : Int)
      simp only [↓SP, SQ, SG, SL, ↓reduceIte, undef, iop, isShift, Nat.reduceEqDiff, reduceCtorEq, Nat.reduceAdd, Nat.reduceMul, Nat.reduceSub, Nat.reduceLT, Nat.reduceLeDiff, Int.reduceLT, Int.reduceLE, Int.reduceEq, Int.reduceGT, Int.reduceGE, Int.reduceNeg, Int.reduceToNat, ne_eq, if_true, if_false, List.map_cons, List.map_nil, Nat.le_refl, SM, r28_3, r28_4, r28_5, r28_6,  ρ_0, q3, q4, hi0, hd, hsh, e5, hws]
      exact ⟨q - 1, by omega, k5, x5, i + 1, _, rfl, rfl, by omega, by rw [hbl]; exact r5.elder xg.next⟩
    · rw [if_neg hb] at hsh hbl
      simp only [↓SP, SQ, SG, SL, ↓reduceIte, undef, iop, isShift, Nat.reduceEqDiff, reduceCtorEq, Nat.reduceAdd, Nat.reduceMul, Nat.reduceSub, Nat.reduceLT, Nat.reduceLeDiff, Int.reduceLT, Int.reduceLE, Int.reduceEq, Int.reduceGT, Int.reduceGE, Int.reduceNeg, Int.reduceToNat, ne_eq, if_true, if_false, List.map_cons, List.map_nil, Nat.le_refl, SM, r28_3, r28_4, r28_5,  ρ_0, q3, q4, hi0, hd, hsh, hws]
      exact ⟨q - 1, by omega, kg, xg, i + 1, _, by first | rfl | assumption, rfl, by omega, by rw [hbl]; exact r⟩
  · simp only [↓SP, SQ, SG, SL, ↓reduceIte, undef, iop, isShift, Nat.reduceEqDiff, reduceCtorEq, Nat.reduceAdd, Nat.reduceMul, Nat.reduceSub, Nat.reduceLT, Nat.reduceLeDiff, Int.reduceLT, Int.reduceLE, Int.reduceEq, Int.reduceGT, Int.reduceGE, Int.reduceNeg, Int.reduceToNat, ne_eq, if_true, if_false, List.map_cons, List.map_nil, Nat.le_refl, SM, r28_3, r28_7,  ρ_0, q3, q4, hi0, hd]
    refine ⟨?_, xg⟩
    by_cases h4 : i = 4
    · subst h4; exact r
    · have : S / 2 ^ i = 0 := Classical.byContradiction fun h => hd (f1.2 ⟨by omega, h⟩)
      rw [f2 this] at r
      exact r

theorem mkS_lt {g : Nat → Nat} (h : ∀ i, g i < 4) : ∀ i, mkS g i < 16
  | 0 => by simp [mkS]
  | i + 1 => by
    rw [mkS]
    refine Nat.or_lt_two_pow (n := 4) (mkS_lt h i) ?_
    have := h i
    have : g i = 0 ∨ g i = 1 ∨ g i = 2 ∨ g i = 3 := by omega
    rcases this with e | e | e | e <;> rw [e] <;> decide
theorem or1_code {a s : Nat} (ha : a < 16) (hs : s < 4) : IntKind.wrap .i64 (((BitVec.ofInt (IntKind.bits .i64) (a : Int) ||| BitVec.ofInt (IntKind.bits .i64) ((1 <<< s : Nat) : Int)).toNat : Nat) : Int) = ((a ||| (1 <<< s) : Nat) : Int) := by
  refine or_code ha ?_
  have : s = 0 ∨ s = 1 ∨ s = 2 ∨ s = 3 := by omega
  rcases this with e | e | e | e <;> rw [e] <;> decide

theorem colN_tabF (n m : Nat) (f : Nat → Nat → Int) {c : Nat} (hc : c < m) : colN (tabF n m f) c = (List.range n).map fun i => f i c := by
  unfold colN tabF
  rw [List.map_map]
  apply List.map_congr_left
  intro i _
  exact rowF_get hc

set_option maxHeartbeats 2000000 in
theorem maskLoop {ρ : Nat → Value} {g : Heap} {n : Nat} (hn : n ≤ 5) {w5 : Value} {f : Nat → Nat → Int} (hf : ∀ i j, 0 ≤ f i j ∧ f i j < 2) (hT : Mat g w5 (tabF n 2 f)) (h5 : ρ 5 = w5) (h8 : ρ 8 = .int .i64 0) (h9 : ρ 9 = .int .i64 0) (h10 : ρ 10 = .int .i64 0) (h11 : ρ 11 = .int .i64 0) :
    wpC (Call T1) (.loop b7_1) (fun e ρ' g' => e = .exit 0 ∧ g' = g ∧ ρ' 8 = .int .i64 (pairsS ((List.range n).map fun i => f i 0) ((List.range n).map fun i => f i 1) n) ∧ ρ' 9 = .int .i64 (oneS ((List.range n).map fun i => f i 0) n) ∧ ρ' 10 = .int .i64 (oneS ((List.range n).map fun i => f i 1) n)) ρ g := by
  generalize hX : ((List.range n).map fun i => f i 0) = X
  generalize hY : ((List.range n).map fun i => f i 1) = Y
  have gX : ∀ i, i < n → X.getD i 0 = f i 0 := fun i hi => by rw [← hX, getD_range_map _ _ _ _ hi]
  have gY : ∀ i, i < n → Y.getD i 0 = f i 1 := fun i hi => by rw [← hY, getD_range_map _ _ _ _ hi]
  have bX : ∀ i, 0 ≤ X.getD i 0 ∧ X.getD i 0 < 2 := fun i => by
    by_cases hi : i < n
    · rw [gX i hi]; exact hf _ _
    · rw [List.getD_eq_getElem?_getD, List.getElem?_eq_none (by rw [← hX]; simp; omega)]; decide
  have bY : ∀ i, 0 ≤ Y.getD i 0 ∧ Y.getD i 0 < 2 := fun i => by
    by_cases hi : i < n
    · rw [gY i hi]; exact hf _ _
    · rw [List.getD_eq_getElem?_getD, List.getElem?_eq_none (by rw [← hY]; simp; omega)]; decide
  have len5 := hT.len
  have hl : (tabF n 2 f).length = n := by simp [tabF]
  rw [hl] at len5
  refine wp_loopK Call.mono (fun q ρ g' => g' = g ∧ ∃ i : Nat, ρ 11 = .int .i64 i ∧ i + q = n ∧ ρ 8 = .int .i64 (pairsS X Y i) ∧ ρ 9 = .int .i64 (oneS X i) ∧ ρ 10 = .int .i64 (oneS Y i)) ?_ (m := n) ⟨rfl, 0, h11, by omega, h8, h9, h10⟩
  rintro q ρ1 g' ⟨rfl, i, q11, hq, q8, q9, q10⟩ keep
  have ρ1_5 : ρ1 5 = w5 := by rw [keep 5 (of_decide_eq_true rfl)]; exact h5
  unfold b7_1
  by_cases hi : i < n
  rotate_left
  · have : i = n := by omega
    subst this
    simp only [↓SP, SQ, SG, SL, ↓reduceIte, undef, iop, isShift, Nat.reduceEqDiff, reduceCtorEq, Nat.reduceAdd, Nat.reduceMul, Nat.reduceSub, Nat.reduceLT, Nat.reduceLeDiff, Int.reduceLT, Int.reduceLE, Int.reduceEq, Int.reduceGT, Int.reduceGE, Int.reduceNeg, Int.reduceToNat, ne_eq, if_true, if_false, List.map_cons, List.map_nil, Nat.le_refl, SM, r7_5,  ρ1_5, q8, q9, q10, q11, len5, Nat.lt_irrefl]
  obtain ⟨p, u, a1, a2, a3, _⟩ := hT.row (i := i) (by omega)
  have er : (tabF n 2 f)[i]'(by omega) = rowF 2 f i := by simp [tabF]
  rw [er] at a3
  obtain ⟨p0, c1, c2⟩ := a3.row (i := 0) (by rw [rowF_length]; omega)
  obtain ⟨p1, c3, c4⟩ := a3.row (i := 1) (by rw [rowF_length]; omega)
  rw [← getD_in (by rw [rowF_length]; omega : 0 < (rowF 2 f i).length) 0, rowF_get (by omega), ← gX i hi] at c2
  rw [← getD_in (by rw [rowF_length]; omega : 1 < (rowF 2 f i).length) 0, rowF_get (by omega), ← gY i hi] at c4
  have c1' : iaddrA 1 u (.int .i64 0) = some p0 := c1
  have c3' : iaddrA 1 u (.int .i64 1) = some p1 := c3
  have bx := bX i
  have by' := bY i
  obtain ⟨x, ex⟩ : ∃ x : Nat, X.getD i 0 = x := ⟨(X.getD i 0).toNat, by omega⟩
  obtain ⟨y, ey⟩ : ∃ y : Nat, Y.getD i 0 = y := ⟨(Y.getD i 0).toNat, by omega⟩
  have hP : pairsS X Y (i + 1) = pairsS X Y i ||| (1 <<< (2 * x + y)) := by
    show mkS _ (i + 1) = _
    rw [mkS, ex, ey]
    have : (2 * (x : Int) + (y : Int)).toNat = 2 * x + y := by omega
    rw [this]; rfl
  have hF : oneS X (i + 1) = oneS X i ||| (1 <<< x) := by
    show mkS _ (i + 1) = _
    rw [mkS, ex, Int.toNat_natCast]; rfl
  have hG : oneS Y (i + 1) = oneS Y i ||| (1 <<< y) := by
    show mkS _ (i + 1) = _
    rw [mkS, ey, Int.toNat_natCast]; rfl
  have lP : pairsS X Y i < 16 := mkS_lt (fun j => by have := bX j; have := bY j; omega) i
  have lF : oneS X i < 16 := mkS_lt (fun j => by have := bX j; omega) i
  have lG : oneS Y i < 16 := mkS_lt (fun j => by have := bY j; omega) i
  rw [ex] at c2
  rw [ey] at c4
  have m1 : IntKind.wrap .i64 (2 * (x : Int)) = ((2 * x : Nat) : Int) := by rw [wrap_in] <;> omega
  have m2 : IntKind.wrap .i64 (((2 * x : Nat) : Int) + (y : Int)) = ((2 * x + y : Nat) : Int) := by rw [wrap_in] <;> omega
  have s1 := shl_code (s := 2 * x + y) (by omega)
  have s2 := shl_code (s := x) (by omega)
  have s3 := shl_code (s := y) (by omega)
  have o1 := or1_code lP (s := 2 * x + y) (by omega)
  have o2 := or1_code lF (s := x) (by omega)
  have o3 := or1_code lG (s := y) (by omega)
  have z1 : ¬ ((2 * x + y : Nat) : Int) < 0 := by omega
  have z2 : ¬ (x : Int) < 0 := by omega
  have z3 : ¬ (y : Int) < 0 := by omega
  have hws : IntKind.wrap .i64 ((i : Int) + 1) = ((i + 1 : Nat) : Int) := by rw [wrap_in] <;> omega
  simp only [↓SP, SQ, SG, SL, ↓reduceIte, undef, iop, isShift, Nat.reduceEqDiff, reduceCtorEq, Nat.reduceAdd, Nat.reduceMul, Nat.reduceSub, Nat.reduceLT, Nat.reduceLeDiff, Int.reduceLT, Int.reduceLE, Int.reduceEq, Int.reduceGT, Int.reduceGE, Int.reduceNeg, Int.reduceToNat, ne_eq, if_true, if_false, List.map_cons, List.map_nil, Nat.le_refl, SM, r7_5, r7_6, r7_7, r7_8, r7_9,  ρ1_5, q8, q9, q10, q11, len5, hi, a1, a2, c1', c2, c3', c4, m1, m2, z1, z2, z3, s1, s2, s3, o1, o2, o3, hws]
  exact ⟨q - 1, by omega, i + 1, rfl, by omega, by rw [hP], by rw [hF], by rw [hG]⟩

theorem bitL_eq (S : Nat) : bitL 4 S = bitList 4 S := rfl

set_option maxHeartbeats 4000000 in
theorem gametes_law {h : Heap} (kk : Ok h) {N : Int} (hN : 0 ≤ N ∧ N < 256) {x : Value} {xs : List Int} (hx : Bytes h x xs) :
    Call T1 7 [.int .u8 N, x] h (fun v _ => v = .bool true) := by
  refine Call.of (fn := f7) rfl (by simp [f7]) ?_
  unfold f7
  obtain ⟨N', rfl⟩ : ∃ m : Nat, N = m := ⟨N.toNat, by omega⟩
  obtain ⟨n, hn⟩ : ∃ n : Nat, N' % 4 + 2 = n := ⟨_, rfl⟩
  have n2 : 2 ≤ n := by omega
  have n5 : n ≤ 5 := by omega
  have u1 : IntKind.wrap .i64 (N' : Int) = N' := by rw [wrap_in] <;> omega
  have u2 : Int.tmod (N' : Int) 4 = ((N' % 4 : Nat) : Int) := tmod_nat (b := 4)
  have u3 : IntKind.wrap .i64 (((N' % 4 : Nat) : Int) + 2) = (n : Int) := by rw [wrap_in] <;> omega
  simp only [↓SP, SQ, SG, SL, ↓reduceIte, undef, iop, isShift, Nat.reduceEqDiff, reduceCtorEq, Nat.reduceAdd, Nat.reduceMul, Nat.reduceSub, Nat.reduceLT, Nat.reduceLeDiff, Int.reduceLT, Int.reduceLE, Int.reduceEq, Int.reduceGT, Int.reduceGE, Int.reduceNeg, Int.reduceToNat, ne_eq, if_true, if_false, List.map_cons, List.map_nil, Nat.le_refl, SM, r7_0, r7_1,  u1, u2, u3]
  refine (table_spec kk (n := n) (m := 2) (k := 2) (by omega) (by omega) (by omega) hx).imp ?_
  rintro w5 g ⟨om, m0⟩
  have hf : ∀ i j, 0 ≤ numT 2 2 xs i j ∧ numT 2 2 xs i j < 2 := fun i j => by have := numT_bd (m := 2) (k := 2) (by omega) hx.2 i j; omega
  generalize numT 2 2 xs = f at *
  have T := tabF_ok n2 n5 (m := 2) (by omega) (f := f) (fun i j => by have := hf i j; omega)
  have hT : Mat g w5 (tabF n 2 f) := om.mat
  obtain ⟨tb, tl, tm⟩ := tabB_of T
  simp only [↓SP, SQ, SG, SL, ↓reduceIte, undef, iop, isShift, Nat.reduceEqDiff, reduceCtorEq, Nat.reduceAdd, Nat.reduceMul, Nat.reduceSub, Nat.reduceLT, Nat.reduceLeDiff, Int.reduceLT, Int.reduceLE, Int.reduceEq, Int.reduceGT, Int.reduceGE, Int.reduceNeg, Int.reduceToNat, ne_eq, if_true, if_false, List.map_cons, List.map_nil, Nat.le_refl, SM, r7_2]
  refine (lawBest_spec m0.2 hT om.fit).imp ?_
  rintro v g1 ⟨rfl, m1⟩
  rw [if_pos tb, if_pos tb]
  simp only [↓SP, SQ, SG, SL, ↓reduceIte, undef, iop, isShift, Nat.reduceEqDiff, reduceCtorEq, Nat.reduceAdd, Nat.reduceMul, Nat.reduceSub, Nat.reduceLT, Nat.reduceLeDiff, Int.reduceLT, Int.reduceLE, Int.reduceEq, Int.reduceGT, Int.reduceGE, Int.reduceNeg, Int.reduceToNat, ne_eq, if_true, if_false, List.map_cons, List.map_nil, Nat.le_refl, SM, r7_2, r7_3, r7_4,  List.getElem?_toArray]
  refine wp_doneK Call.mono (maskLoop n5 hf (hT.ext m1.1 m0.2) rfl rfl rfl rfl rfl) ?_
  rintro e ρ1 g2 ⟨rfl, rfl, e8, e9, e10⟩ keep
  have ρ1_6 : ρ1 6 = .int .i64 (bestR (tabF n 2 f)).1 := by rw [keep 6 (of_decide_eq_true rfl)]; first | rfl | assumption
  have ρ1_7 : ρ1 7 = .int .i64 0 := by rw [keep 7 (of_decide_eq_true rfl)]; first | rfl | assumption
  clear keep
  have c0 := colN_tabF n 2 f (c := 0) (by omega)
  have c1 := colN_tabF n 2 f (c := 1) (by omega)
  have bst := bestT_best (f := lenF (tabF n 2 f) 2) (lenF_nonneg _ _) (lenF_sw _ _) (n := n) (by omega)
  have eb : bestR (tabF n 2 f) = bestT (lenF (tabF n 2 f) 2) n (n - 1) [] (upto n) := by rw [bestR, tl, tm]
  rw [← eb] at bst
  have mX : ((List.range n).map fun i => f i 0) ∈ allL n := by
    have := mem_allL ((List.range n).map fun i => f i 0) (fun y hy => by
      obtain ⟨i, _, rfl⟩ := List.mem_map.1 hy
      have := hf i 0
      omega)
    simpa using this
  have mY : ((List.range n).map fun i => f i 1) ∈ allL n := by
    have := mem_allL ((List.range n).map fun i => f i 1) (fun y hy => by
      obtain ⟨i, _, rfl⟩ := List.mem_map.1 hy
      have := hf i 1
      omega)
    simpa using this
  have gm := gametes n2 n5 mX mY (f := lenF (tabF n 2 f) 2) (fun J => by
    unfold lenF
    rw [lenN, lenN, lenN, c0, c1, Nat.zero_add]; rfl) bst.1 bst.2.2.2 bst.2.2.1
  have bX : ∀ i, (((List.range n).map fun i => f i 0).getD i 0) = 0 ∨ (((List.range n).map fun i => f i 0).getD i 0) = 1 := fun i => by
    by_cases hi : i < n
    · rw [getD_range_map _ _ _ _ hi]; have := hf i 0; omega
    · left; rw [List.getD_eq_getElem?_getD, List.getElem?_eq_none (by simp; omega)]; rfl
  have bY : ∀ i, (((List.range n).map fun i => f i 1).getD i 0) = 0 ∨ (((List.range n).map fun i => f i 1).getD i 0) = 1 := fun i => by
    by_cases hi : i < n
    · rw [getD_range_map _ _ _ _ hi]; have := hf i 1; omega
    · left; rw [List.getD_eq_getElem?_getD, List.getElem?_eq_none (by simp; omega)]; rfl
  have lP : pairsS ((List.range n).map fun i => f i 0) ((List.range n).map fun i => f i 1) n < 16 := mkS_lt (fun j => by have := bX j; have := bY j; omega) n
  have lF : oneS ((List.range n).map fun i => f i 0) n < 16 := mkS_lt (fun j => by have := bX j; omega) n
  have lG : oneS ((List.range n).map fun i => f i 1) n < 16 := mkS_lt (fun j => by have := bY j; omega) n
  have ee := chkE_all n n2 n5
  simp only [chkE, List.all_eq_true, decide_eq_true_eq] at ee
  have ex := ee _ mX
  have ey := ee _ mY
  have hleast : leastS ((List.range n).map fun i => f i 0) ((List.range n).map fun i => f i 1) n = (bitList 4 (oneS ((List.range n).map fun i => f i 0) n)).length + (bitList 4 (oneS ((List.range n).map fun i => f i 1) n)).length - 2 := rfl
  rw [bitL_eq] at ex ey
  rw [hleast] at gm
  generalize pairsS ((List.range n).map fun i => f i 0) ((List.range n).map fun i => f i 1) n = P at *
  generalize oneS ((List.range n).map fun i => f i 0) n = F at *
  generalize oneS ((List.range n).map fun i => f i 1) n = G at *
  simp only [↓SP, SQ, SG, SL, ↓reduceIte, undef, iop, isShift, Nat.reduceEqDiff, reduceCtorEq, Nat.reduceAdd, Nat.reduceMul, Nat.reduceSub, Nat.reduceLT, Nat.reduceLeDiff, Int.reduceLT, Int.reduceLE, Int.reduceEq, Int.reduceGT, Int.reduceGE, Int.reduceNeg, Int.reduceToNat, ne_eq, if_true, if_false, List.map_cons, List.map_nil, Nat.le_refl, SM, r7_10,  e9]
  refine (members_spec m1.2 lF).imp ?_
  rintro v g3 ⟨ilF, m3⟩
  have lenF' := ilF.ints.len
  simp only [↓SP, SQ, SG, SL, ↓reduceIte, undef, iop, isShift, Nat.reduceEqDiff, reduceCtorEq, Nat.reduceAdd, Nat.reduceMul, Nat.reduceSub, Nat.reduceLT, Nat.reduceLeDiff, Int.reduceLT, Int.reduceLE, Int.reduceEq, Int.reduceGT, Int.reduceGE, Int.reduceNeg, Int.reduceToNat, ne_eq, if_true, if_false, List.map_cons, List.map_nil, Nat.le_refl, SM, e10, lenF']
  refine (members_spec m3.2 lG).imp ?_
  rintro v2 g4 ⟨ilG, m4⟩
  have lenG' := ilG.ints.len
  generalize (bitList 4 F).length = a at *
  generalize (bitList 4 G).length = b at *
  generalize (bestR (tabF n 2 f)).1 = V at *
  have w1 : IntKind.wrap .i64 ((a : Int) + (b : Int)) = ((a + b : Nat) : Int) := by rw [wrap_in] <;> omega
  have w2 : IntKind.wrap .i64 (((a + b : Nat) : Int) - 2) = ((a + b - 2 : Nat) : Int) := by rw [wrap_in] <;> omega
  by_cases d : P = 15
  · have g1 := gm.1 d
    have d' : (P : Int) = 15 := by omega
    simp only [↓SP, SQ, SG, SL, ↓reduceIte, undef, iop, isShift, Nat.reduceEqDiff, reduceCtorEq, Nat.reduceAdd, Nat.reduceMul, Nat.reduceSub, Nat.reduceLT, Nat.reduceLeDiff, Int.reduceLT, Int.reduceLE, Int.reduceEq, Int.reduceGT, Int.reduceGE, Int.reduceNeg, Int.reduceToNat, ne_eq, if_true, if_false, List.map_cons, List.map_nil, Nat.le_refl, SM, r7_11,  lenF', lenG', w1, w2, e8, ρ1_6, ρ1_7, d', d, g1]
    refine lives_call ?_
    simp only [↓SP, SQ, SG, SL, ↓reduceIte, undef, iop, isShift, Nat.reduceEqDiff, reduceCtorEq, Nat.reduceAdd, Nat.reduceMul, Nat.reduceSub, Nat.reduceLT, Nat.reduceLeDiff, Int.reduceLT, Int.reduceLE, Int.reduceEq, Int.reduceGT, Int.reduceGE, Int.reduceNeg, Int.reduceToNat, ne_eq, if_true, if_false, List.map_cons, List.map_nil]
  · have g1 := gm.2 d
    have d' : ¬ (P : Int) = 15 := by omega
    have d2 : (P : Int) < 15 := by omega
    simp only [↓SP, SQ, SG, SL, ↓reduceIte, undef, iop, isShift, Nat.reduceEqDiff, reduceCtorEq, Nat.reduceAdd, Nat.reduceMul, Nat.reduceSub, Nat.reduceLT, Nat.reduceLeDiff, Int.reduceLT, Int.reduceLE, Int.reduceEq, Int.reduceGT, Int.reduceGE, Int.reduceNeg, Int.reduceToNat, ne_eq, if_true, if_false, List.map_cons, List.map_nil, Nat.le_refl, SM, r7_11,  lenF', lenG', w1, w2, e8, ρ1_6, ρ1_7, d', d, d2, g1]
    refine lives_call ?_
    simp only [↓SP, SQ, SG, SL, ↓reduceIte, undef, iop, isShift, Nat.reduceEqDiff, reduceCtorEq, Nat.reduceAdd, Nat.reduceMul, Nat.reduceSub, Nat.reduceLT, Nat.reduceLeDiff, Int.reduceLT, Int.reduceLE, Int.reduceEq, Int.reduceGT, Int.reduceGE, Int.reduceNeg, Int.reduceToNat, ne_eq, if_true, if_false, List.map_cons, List.map_nil]

end Go.AM.K
