/- Track: how the laws derive costs. -/
import Derived.Test.YtkhhdemhlbaboaaAMS
import Derived.Test.YtkhhdemhlbaboaaK10
import Derived.Test.YtkhhdemhlbaboaaTP4
set_option linter.unusedVariables false
set_option linter.unusedSimpArgs false
set_option maxRecDepth 20000
namespace Go.AM.K
open Go.AM Go.AM.Fn Go.AM.TP
attribute [local congr] ite_cond

/-- Costs that are written in place. -/
def OF (h0 h : Heap) (v : Value) (k : Nat) (f : Nat → Nat → Int) : Prop := OM h0 h v k (rowF k f)
theorem OF.mat {h0 h : Heap} {v : Value} {k : Nat} {f : Nat → Nat → Int} (r : OF h0 h v k f) : Mat h v (matF k f) := OM.mat r
theorem OF.fit {h0 h : Heap} {v : Value} {k : Nat} {f : Nat → Nat → Int} (r : OF h0 h v k f) : Fit v := OM.fit r
theorem OF.view {h0 h : Heap} (kk : Ok h) (x0 : Ext h0 h) {v : Value} {k : Nat} {f : Nat → Nat → Int} (r : OF h0 h v k f) :
    ∃ (P U : Nat → Value) (Q : Nat → Nat → Value), (∀ a : Nat, a < k → iaddrA 1 v (.int .i64 a) = some (P a)) ∧ (∀ a : Nat, a < k → loadA h 1 false (P a) = some (U a)) ∧ (∀ a d : Nat, a < k → d < k → iaddrA 1 (U a) (.int .i64 d) = some (Q a d)) ∧
      (∀ a d : Nat, a < k → d < k → loadA h 1 false (Q a d) = some (.int .i64 (f a d))) ∧
      ∀ (a d : Nat) (y : Int), a < k → d < k → ∃ h', storeA h 1 (Q a d) (.int .i64 y) = some (undef, h') ∧ OF h0 h' v k (upd f a d y) ∧ Ext h0 h' ∧ Ok h' := by
  obtain ⟨P, U, Q, h1, h2, h3, h4, h5⟩ := OM.view kk x0 r
  refine ⟨P, U, Q, h1, h2, fun a d ha hd => h3 a d ha (by rw [rowF_length]; exact hd), fun a d ha hd => ?_, fun a d y ha hd => ?_⟩
  · rw [h4 a d ha (by rw [rowF_length]; exact hd), rowF_get hd]
  · obtain ⟨h', e, o, x, k', _⟩ := h5 a d y ha (by rw [rowF_length]; exact hd)
    exact ⟨h', e, OM.congr (fun i hi => rowF_set y i) o, x, k'⟩

/-- The costs that are derived from numbers. -/
def numF (k : Nat) (xs : List Int) (a d : Nat) : Int := if a * k + d < xs.length then (xs.getD (a * k + d) 0).tmod 101 else 1
theorem numF_bd {k : Nat} {xs : List Int} (hx : ∀ x ∈ xs, 0 ≤ x ∧ x < 256) : Bd k (numF k xs) := by
  intro i j hi hj
  unfold numF
  split
  · rename_i h
    rw [getD_in h]
    have hb := hx _ (List.getElem_mem h)
    have := mod_small hb.1 hb.2 (k := 101) (by omega) (by omega)
    omega
  · omega
theorem rowF_take (k : Nat) (f : Nat → Nat → Int) (a d : Nat) : (List.range (d + 1)).map (f a) = (List.range d).map (f a) ++ [f a d] := by simp [List.range_succ]

set_option maxHeartbeats 1000000 in
/-- A row. -/
theorem lawRow {ρ : Nat → Value} {g0 g : Heap} (k0 : Ok g0) (kg : Ok g) (xg : Ext g0 g) {x w : Value} {xs : List Int} (hx : Bytes g0 x xs) {k a : Nat} (hk : 1 ≤ k ∧ k ≤ 4) (ha : a < k) (h0 : ρ 0 = .int .i64 k) (h1 : ρ 1 = x) (h8 : ρ 8 = .int .i64 a) (h9 : ρ 9 = w) (hw : IL g0 g w []) (h10 : ρ 10 = .int .i64 0) :
    wpC (Call T1) (.loop b24_1) (fun e ρ' g' => e = .exit 2 ∧ Ok g' ∧ Ext g0 g' ∧ IL g0 g' (ρ' 9) (rowF k (numF k xs) a)) ρ g := by
  have hlen := hx.1.len
  have hsm := hx.1.small
  refine wp_loopK Call.mono (fun q ρ g' => Ok g' ∧ Ext g0 g' ∧ ∃ (d : Nat) (u : Value), ρ 9 = u ∧ ρ 10 = .int .i64 d ∧ d + q = k ∧ IL g0 g' u ((List.range d).map (numF k xs a))) ?_ (m := k) ⟨kg, xg, 0, w, h9, h10, by omega, hw⟩
  rintro q ρ1 g' ⟨kg', xg', d, u, q9, q10, hq, r⟩ keep
  have ρ1_0 : ρ1 0 = .int .i64 k := by rw [keep 0 (of_decide_eq_true rfl)]; exact h0
  have ρ1_1 : ρ1 1 = x := by rw [keep 1 (of_decide_eq_true rfl)]; exact h1
  have ρ1_8 : ρ1 8 = .int .i64 a := by rw [keep 8 (of_decide_eq_true rfl)]; exact h8
  unfold b24_1
  by_cases hd : d < k
  rotate_left
  · have : d = k := by omega
    subst this
    simp only [↓SP, SQ, SG, SL, ↓reduceIte, undef, iop, isShift, Nat.reduceEqDiff, reduceCtorEq, Nat.reduceAdd, Nat.reduceMul, Nat.reduceSub, Nat.reduceLT, Nat.reduceLeDiff, Int.reduceLT, Int.reduceLE, Int.reduceEq, Int.reduceGT, Int.reduceGE, Int.reduceNeg, Int.reduceToNat, ne_eq, if_true, if_false, List.map_cons, List.map_nil, Nat.le_refl, SM, r24_7,  ρ1_0, ρ1_1, ρ1_8, q9, q10, Nat.lt_irrefl]
    exact ⟨kg', xg', r⟩
  have hws : IntKind.wrap .i64 ((d : Int) + 1) = ((d + 1 : Nat) : Int) := by rw [wrap_in] <;> omega
  have hak : a * k ≤ 12 := Nat.le_trans (Nat.mul_le_mul (show a ≤ 3 by omega) hk.2) (by decide)
  have f1 : IntKind.wrap .i64 ((a : Int) * (k : Int)) = ((a * k : Nat) : Int) := by rw [← Int.natCast_mul, wrap_in] <;> omega
  have f2 : IntKind.wrap .i64 (((a * k : Nat) : Int) + (d : Int)) = ((a * k + d : Nat) : Int) := by rw [wrap_in] <;> omega
  have hnext := rowF_take k (numF k xs) a d
  by_cases hl : a * k + d < xs.length
  · obtain ⟨p, a1, a2⟩ := (hx.1.ext xg' k0).row hl
    have hb := hx.2 _ (List.getElem_mem hl)
    have hwx : IntKind.wrap .i64 xs[a * k + d] = xs[a * k + d] := by rw [wrap_in] <;> omega
    have hn : xs[a * k + d].tmod 101 = numF k xs a d := by rw [numF, if_pos hl, getD_in hl]
    obtain ⟨v', g2, e, o, x2, k2, ov⟩ := r.push xg' kg' (by simp; omega) (numF k xs a d)
    rw [← hnext] at o
    generalize a * k + d = at_ at *
    simp only [↓SP, SQ, SG, SL, ↓reduceIte, undef, iop, isShift, Nat.reduceEqDiff, reduceCtorEq, Nat.reduceAdd, Nat.reduceMul, Nat.reduceSub, Nat.reduceLT, Nat.reduceLeDiff, Int.reduceLT, Int.reduceLE, Int.reduceEq, Int.reduceGT, Int.reduceGE, Int.reduceNeg, Int.reduceToNat, ne_eq, if_true, if_false, List.map_cons, List.map_nil, Nat.le_refl, SM, r24_7, r24_8, r24_9, r24_10, r24_11, r24_12, r24_13,  ρ1_0, ρ1_1, ρ1_8, q9, q10, hd, f1, f2, hl, hlen, a1, a2, hwx, hn, e, hws]
    exact ⟨q - 1, by omega, k2, x2, d + 1, _, rfl, rfl, by omega, o.elder xg'.next⟩
  · have hn : 1 = numF k xs a d := by rw [numF, if_neg hl]
    obtain ⟨v', g2, e, o, x2, k2, ov⟩ := r.push xg' kg' (by simp; omega) (numF k xs a d)
    rw [← hnext] at o
    rw [← hn] at e
    generalize a * k + d = at_ at *
    simp only [↓SP, SQ, SG, SL, ↓reduceIte, undef, iop, isShift, Nat.reduceEqDiff, reduceCtorEq, Nat.reduceAdd, Nat.reduceMul, Nat.reduceSub, Nat.reduceLT, Nat.reduceLeDiff, Int.reduceLT, Int.reduceLE, Int.reduceEq, Int.reduceGT, Int.reduceGE, Int.reduceNeg, Int.reduceToNat, ne_eq, if_true, if_false, List.map_cons, List.map_nil, Nat.le_refl, SM, r24_7, r24_8, r24_9, r24_10, r24_11, r24_13,  ρ1_0, ρ1_1, ρ1_8, q9, q10, hd, f1, f2, hl, hlen, e, hws]
    exact ⟨q - 1, by omega, k2, x2, d + 1, _, rfl, rfl, by omega, o.elder xg'.next⟩

set_option maxHeartbeats 1000000 in
/-- All rows. -/
theorem lawRows {ρ : Nat → Value} {h g : Heap} (kh : Ok h) (kg : Ok g) (xg : Ext h g) {x w : Value} {xs : List Int} (hx : Bytes h x xs) {k : Nat} (hk : 1 ≤ k ∧ k ≤ 4) (h0 : ρ 0 = .int .i64 k) (h1 : ρ 1 = x) (h7 : ρ 7 = w) (hw : ∀ rows, OM h g w 0 rows) (h8 : ρ 8 = .int .i64 0) :
    wpC (Call T1) (.loop b24_2) (fun e ρ' g' => e = .exit 0 ∧ Ok g' ∧ Ext h g' ∧ OF h g' (ρ' 7) k (numF k xs)) ρ g := by
  refine wp_loopK Call.mono (fun q ρ g' => Ok g' ∧ Ext h g' ∧ ∃ (a : Nat) (u : Value), ρ 7 = u ∧ ρ 8 = .int .i64 a ∧ a + q = k ∧ OM h g' u a (rowF k (numF k xs))) ?_ (m := k) ⟨kg, xg, 0, w, h7, h8, by omega, hw _⟩
  rintro q ρ1 g' ⟨kg', xg', a, u, q7, q8, hq, r⟩ keep
  have ρ1_0 : ρ1 0 = .int .i64 k := by rw [keep 0 (of_decide_eq_true rfl)]; exact h0
  have ρ1_1 : ρ1 1 = x := by rw [keep 1 (of_decide_eq_true rfl)]; exact h1
  unfold b24_2
  by_cases ha : a < k
  rotate_left
  · have : a = k := by omega
    subst this
    simp only [↓SP, SQ, SG, SL, ↓reduceIte, undef, iop, isShift, Nat.reduceEqDiff, reduceCtorEq, Nat.reduceAdd, Nat.reduceMul, Nat.reduceSub, Nat.reduceLT, Nat.reduceLeDiff, Int.reduceLT, Int.reduceLE, Int.reduceEq, Int.reduceGT, Int.reduceGE, Int.reduceNeg, Int.reduceToNat, ne_eq, if_true, if_false, List.map_cons, List.map_nil, Nat.le_refl, SM, r24_3,  ρ1_0, ρ1_1, q7, q8, Nat.lt_irrefl]
    exact ⟨kg', xg', r⟩
  obtain ⟨x4, k4⟩ := ext_alloc0 kg'
  simp only [↓SP, SQ, SG, SL, ↓reduceIte, undef, iop, isShift, Nat.reduceEqDiff, reduceCtorEq, Nat.reduceAdd, Nat.reduceMul, Nat.reduceSub, Nat.reduceLT, Nat.reduceLeDiff, Int.reduceLT, Int.reduceLE, Int.reduceEq, Int.reduceGT, Int.reduceGE, Int.reduceNeg, Int.reduceToNat, ne_eq, if_true, if_false, List.map_cons, List.map_nil, Nat.le_refl, SM, r24_3, r24_5, r24_6,  ρ1_0, ρ1_1, q7, q8, ha]
  refine wp_doneK Call.mono (lawRow kg' k4 x4 (hx.ext xg' kh) hk ha ρ1_0 ρ1_1 q8 rfl (IL.empty _ _ _) rfl) ?_
  rintro e ρ4 g4 ⟨rfl, kg4, xg4, r4⟩ keep4
  have k7 := (keep4 7 (of_decide_eq_true rfl)).trans q7
  have k8 := (keep4 8 (of_decide_eq_true rfl)).trans q8
  have hws : IntKind.wrap .i64 ((a : Int) + 1) = ((a + 1 : Nat) : Int) := by rw [wrap_in] <;> omega
  obtain ⟨v5, g5, e5, r5, x5, k5, ov5⟩ := r.push kg' xg' xg4 kg4 r4 (by intro e; have := congrArg List.length e; simp [rowF_length] at this; omega) (by omega)
  have fc := r4.fit.cell
  generalize hw9 : ρ4 9 = w9 at *
  simp only [↓SP, SQ, SG, SL, ↓reduceIte, undef, iop, isShift, Nat.reduceEqDiff, reduceCtorEq, Nat.reduceAdd, Nat.reduceMul, Nat.reduceSub, Nat.reduceLT, Nat.reduceLeDiff, Int.reduceLT, Int.reduceLE, Int.reduceEq, Int.reduceGT, Int.reduceGE, Int.reduceNeg, Int.reduceToNat, ne_eq, if_true, if_false, List.map_cons, List.map_nil, Nat.le_refl, SM, r24_4, r24_14,  k7, k8, hw9, fc, e5, hws]
  refine ⟨q - 1, by omega, k5, x5, a + 1, _, rfl, rfl, by omega, OM.congr (fun i hi => ?_) r5⟩
  by_cases e : i = a
  · rw [if_pos e, e]
  · rw [if_neg e]

set_option maxHeartbeats 1000000 in
/-- One half is the other's picture. -/
theorem symLoop {ρ : Nat → Value} {h g : Heap} (kg : Ok g) (xg : Ext h g) {w : Value} {k a : Nat} (ha : a < k) (hk : k ≤ 4) {f : Nat → Nat → Int} (s0 : Sy k a f) (h7 : ρ 7 = w) (hw : OF h g w k f) (h13 : ρ 13 = .int .i64 a) (h14 : ρ 14 = .int .i64 0) :
    wpC (Call T1) (.loop b24_3) (fun e ρ' g' => e = .exit 6 ∧ Ok g' ∧ Ext h g' ∧ ∃ f', OF h g' w k f' ∧ Sy k a f' ∧ ∀ j, j < a → f' j a = f' a j) ρ g := by
  refine wp_loopK Call.mono (fun q ρ g' => Ok g' ∧ Ext h g' ∧ ∃ (d : Nat) (f' : Nat → Nat → Int), ρ 14 = .int .i64 d ∧ d + q = a ∧ OF h g' w k f' ∧ Sy k a f' ∧ ∀ j, j < d → f' j a = f' a j) ?_ (m := a) ⟨kg, xg, 0, f, h14, by omega, hw, s0, fun j hj => by omega⟩
  rintro q ρ1 g' ⟨kg', xg', d, f', q14, hq, r, s, hs⟩ keep
  have ρ1_7 : ρ1 7 = w := by rw [keep 7 (of_decide_eq_true rfl)]; exact h7
  have ρ1_13 : ρ1 13 = .int .i64 a := by rw [keep 13 (of_decide_eq_true rfl)]; exact h13
  unfold b24_3
  by_cases hd : d < a
  rotate_left
  · have : d = a := by omega
    subst this
    simp only [↓SP, SQ, SG, SL, ↓reduceIte, undef, iop, isShift, Nat.reduceEqDiff, reduceCtorEq, Nat.reduceAdd, Nat.reduceMul, Nat.reduceSub, Nat.reduceLT, Nat.reduceLeDiff, Int.reduceLT, Int.reduceLE, Int.reduceEq, Int.reduceGT, Int.reduceGE, Int.reduceNeg, Int.reduceToNat, ne_eq, if_true, if_false, List.map_cons, List.map_nil, Nat.le_refl, SM, r24_21,  ρ1_7, ρ1_13, q14, Nat.lt_irrefl]
    exact ⟨kg', xg', f', r, s, hs⟩
  obtain ⟨P, U, Q, v1, v2, v3, v4, v5⟩ := r.view kg' xg'
  have hdk : d < k := by omega
  have hws : IntKind.wrap .i64 ((d : Int) + 1) = ((d + 1 : Nat) : Int) := by rw [wrap_in] <;> omega
  obtain ⟨g5, e5, r5, x5, k5⟩ := v5 d a (f' a d) hdk ha
  have st := s.inner ha hd hs
  simp only [↓SP, SQ, SG, SL, ↓reduceIte, undef, iop, isShift, Nat.reduceEqDiff, reduceCtorEq, Nat.reduceAdd, Nat.reduceMul, Nat.reduceSub, Nat.reduceLT, Nat.reduceLeDiff, Int.reduceLT, Int.reduceLE, Int.reduceEq, Int.reduceGT, Int.reduceGE, Int.reduceNeg, Int.reduceToNat, ne_eq, if_true, if_false, List.map_cons, List.map_nil, Nat.le_refl, SM, r24_21, r24_22, r24_23,  ρ1_7, ρ1_13, q14, hd, v1 a ha, v2 a ha, v1 d hdk, v2 d hdk, v3 d a hdk ha, v3 a d ha hdk, v4 a d ha hdk, e5, hws]
  exact ⟨q - 1, by omega, k5, x5, d + 1, _, rfl, by omega, r5, st.1, st.2⟩

set_option maxHeartbeats 1000000 in
theorem symLoops {ρ : Nat → Value} {h g : Heap} (kg : Ok g) (xg : Ext h g) {w : Value} {k : Nat} (hk : k ≤ 4) {f : Nat → Nat → Int} (s0 : Sy k 0 f) (h0 : ρ 0 = .int .i64 k) (h7 : ρ 7 = w) (hw : OF h g w k f) (h13 : ρ 13 = .int .i64 0) :
    wpC (Call T1) (.loop b24_4) (fun e ρ' g' => e = .exit 4 ∧ Ok g' ∧ Ext h g' ∧ ∃ f', OF h g' w k f' ∧ Sy k k f') ρ g := by
  refine wp_loopK Call.mono (fun q ρ g' => Ok g' ∧ Ext h g' ∧ ∃ (a : Nat) (f' : Nat → Nat → Int), ρ 13 = .int .i64 a ∧ a + q = k ∧ OF h g' w k f' ∧ Sy k a f') ?_ (m := k) ⟨kg, xg, 0, f, h13, by omega, hw, s0⟩
  rintro q ρ1 g' ⟨kg', xg', a, f', q13, hq, r, s⟩ keep
  have ρ1_0 : ρ1 0 = .int .i64 k := by rw [keep 0 (of_decide_eq_true rfl)]; exact h0
  have ρ1_7 : ρ1 7 = w := by rw [keep 7 (of_decide_eq_true rfl)]; exact h7
  unfold b24_4
  by_cases ha : a < k
  rotate_left
  · have : a = k := by omega
    subst this
    simp only [↓SP, SQ, SG, SL, ↓reduceIte, undef, iop, isShift, Nat.reduceEqDiff, reduceCtorEq, Nat.reduceAdd, Nat.reduceMul, Nat.reduceSub, Nat.reduceLT, Nat.reduceLeDiff, Int.reduceLT, Int.reduceLE, Int.reduceEq, Int.reduceGT, Int.reduceGE, Int.reduceNeg, Int.reduceToNat, ne_eq, if_true, if_false, List.map_cons, List.map_nil, Nat.le_refl, SM, r24_18,  ρ1_0, ρ1_7, q13, Nat.lt_irrefl]
    exact ⟨kg', xg', f', r, s⟩
  simp only [↓SP, SQ, SG, SL, ↓reduceIte, undef, iop, isShift, Nat.reduceEqDiff, reduceCtorEq, Nat.reduceAdd, Nat.reduceMul, Nat.reduceSub, Nat.reduceLT, Nat.reduceLeDiff, Int.reduceLT, Int.reduceLE, Int.reduceEq, Int.reduceGT, Int.reduceGE, Int.reduceNeg, Int.reduceToNat, ne_eq, if_true, if_false, List.map_cons, List.map_nil, Nat.le_refl, SM, r24_18, r24_20,  ρ1_0, ρ1_7, q13, ha]
  refine wp_doneK Call.mono (symLoop kg' xg' ha hk s ρ1_7 r q13 rfl) ?_
  rintro e ρ4 g4 ⟨rfl, kg4, xg4, f4, r4, s4, hs4⟩ keep4
  have k7 := (keep4 7 (of_decide_eq_true rfl)).trans ρ1_7
  have k13 := (keep4 13 (of_decide_eq_true rfl)).trans q13
  have hws : IntKind.wrap .i64 ((a : Int) + 1) = ((a + 1 : Nat) : Int) := by rw [wrap_in] <;> omega
  obtain ⟨P, U, Q, v1, v2, v3, v4, v5⟩ := r4.view kg4 xg4
  obtain ⟨g5, e5, r5, x5, k5⟩ := v5 a a 0 ha ha
  simp only [↓SP, SQ, SG, SL, ↓reduceIte, undef, iop, isShift, Nat.reduceEqDiff, reduceCtorEq, Nat.reduceAdd, Nat.reduceMul, Nat.reduceSub, Nat.reduceLT, Nat.reduceLeDiff, Int.reduceLT, Int.reduceLE, Int.reduceEq, Int.reduceGT, Int.reduceGE, Int.reduceNeg, Int.reduceToNat, ne_eq, if_true, if_false, List.map_cons, List.map_nil, Nat.le_refl, SM, r24_19, r24_24,  k7, k13, v1 a ha, v2 a ha, v3 a a ha ha, e5, hws]
  exact ⟨q - 1, by omega, k5, x5, a + 1, _, rfl, by omega, r5, s4.outer ha hs4⟩

set_option maxHeartbeats 1000000 in
theorem viaLoop {ρ : Nat → Value} {h g : Heap} (kg : Ok g) (xg : Ext h g) {w : Value} {k m a : Nat} (hm : m < k) (ha : a < k) (hk : k ≤ 4) {f0 f : Nat → Nat → Int} (s0 : Sy k k f0) (M0 : Mid k m f0 a 0 f) (h0 : ρ 0 = .int .i64 k) (h7 : ρ 7 = w) (hw : OF h g w k f) (h15 : ρ 15 = .int .i64 m) (h16 : ρ 16 = .int .i64 a) (h17 : ρ 17 = .int .i64 0) :
    wpC (Call T1) (.loop b24_5) (fun e ρ' g' => e = .exit 12 ∧ Ok g' ∧ Ext h g' ∧ ∃ f', OF h g' w k f' ∧ Mid k m f0 a k f') ρ g := by
  refine wp_loopK Call.mono (fun q ρ g' => Ok g' ∧ Ext h g' ∧ ∃ (d : Nat) (f' : Nat → Nat → Int), ρ 17 = .int .i64 d ∧ d + q = k ∧ OF h g' w k f' ∧ Mid k m f0 a d f') ?_ (m := k) ⟨kg, xg, 0, f, h17, by omega, hw, M0⟩
  rintro q ρ1 g' ⟨kg', xg', d, f', q17, hq, r, M⟩ keep
  have ρ1_0 : ρ1 0 = .int .i64 k := by rw [keep 0 (of_decide_eq_true rfl)]; exact h0
  have ρ1_7 : ρ1 7 = w := by rw [keep 7 (of_decide_eq_true rfl)]; exact h7
  have ρ1_15 : ρ1 15 = .int .i64 m := by rw [keep 15 (of_decide_eq_true rfl)]; exact h15
  have ρ1_16 : ρ1 16 = .int .i64 a := by rw [keep 16 (of_decide_eq_true rfl)]; exact h16
  unfold b24_5
  by_cases hd : d < k
  rotate_left
  · have : d = k := by omega
    subst this
    simp only [↓SP, SQ, SG, SL, ↓reduceIte, undef, iop, isShift, Nat.reduceEqDiff, reduceCtorEq, Nat.reduceAdd, Nat.reduceMul, Nat.reduceSub, Nat.reduceLT, Nat.reduceLeDiff, Int.reduceLT, Int.reduceLE, Int.reduceEq, Int.reduceGT, Int.reduceGE, Int.reduceNeg, Int.reduceToNat, ne_eq, if_true, if_false, List.map_cons, List.map_nil, Nat.le_refl, SM, r24_32,  ρ1_0, ρ1_7, q17, Nat.lt_irrefl]
    exact ⟨kg', xg', f', r, M⟩
  obtain ⟨P, U, Q, v1, v2, v3, v4, v5⟩ := r.view kg' xg'
  have hws : IntKind.wrap .i64 ((d : Int) + 1) = ((d + 1 : Nat) : Int) := by rw [wrap_in] <;> omega
  obtain ⟨e1, e2, e3⟩ := M.value hm s0 ha hd
  have b1 := s0.bd a m ha hm
  have b2 := s0.bd m d hm hd
  have hwa : IntKind.wrap .i64 (f0 a m + f0 m d) = f0 a m + f0 m d := by rw [wrap_in] <;> omega
  obtain ⟨g5, e5, r5, x5, k5⟩ := v5 a d (via f0 m a d) ha hd
  have l1 := v4 a d ha hd
  have l2 := v4 a m ha hm
  have l3 := v4 m d hm hd
  rw [e1] at l1
  rw [e2] at l2
  rw [e3] at l3
  have hmin : (if f0 a m + f0 m d < f0 a d then f0 a m + f0 m d else f0 a d) = via f0 m a d := by unfold via; split <;> omega
  simp only [↓SP, SQ, SG, SL, ↓reduceIte, undef, iop, isShift, Nat.reduceEqDiff, reduceCtorEq, Nat.reduceAdd, Nat.reduceMul, Nat.reduceSub, Nat.reduceLT, Nat.reduceLeDiff, Int.reduceLT, Int.reduceLE, Int.reduceEq, Int.reduceGT, Int.reduceGE, Int.reduceNeg, Int.reduceToNat, ne_eq, if_true, if_false, List.map_cons, List.map_nil, Nat.le_refl, SM, r24_32, r24_33, r24_34,  ρ1_0, ρ1_7, ρ1_15, ρ1_16, q17, hd, v1 a ha, v2 a ha, v1 m hm, v2 m hm, v3 a d ha hd, v3 a m ha hm, v3 m d hm hd, l1, l2, l3, hwa, hmin, e5, hws]
  exact ⟨q - 1, by omega, k5, x5, d + 1, _, rfl, by omega, r5, M.step rfl⟩

set_option maxHeartbeats 1000000 in
theorem viaLoops {ρ : Nat → Value} {h g : Heap} (kg : Ok g) (xg : Ext h g) {w : Value} {k m : Nat} (hm : m < k) (hk : k ≤ 4) {f0 : Nat → Nat → Int} (s0 : Sy k k f0) (h0 : ρ 0 = .int .i64 k) (h7 : ρ 7 = w) (hw : OF h g w k f0) (h15 : ρ 15 = .int .i64 m) (h16 : ρ 16 = .int .i64 0) :
    wpC (Call T1) (.loop b24_6) (fun e ρ' g' => e = .exit 10 ∧ Ok g' ∧ Ext h g' ∧ ∃ f', OF h g' w k f' ∧ Mid k m f0 k 0 f') ρ g := by
  refine wp_loopK Call.mono (fun q ρ g' => Ok g' ∧ Ext h g' ∧ ∃ (a : Nat) (f' : Nat → Nat → Int), ρ 16 = .int .i64 a ∧ a + q = k ∧ OF h g' w k f' ∧ Mid k m f0 a 0 f') ?_ (m := k) ⟨kg, xg, 0, f0, h16, by omega, hw, .start⟩
  rintro q ρ1 g' ⟨kg', xg', a, f', q16, hq, r, M⟩ keep
  have ρ1_0 : ρ1 0 = .int .i64 k := by rw [keep 0 (of_decide_eq_true rfl)]; exact h0
  have ρ1_7 : ρ1 7 = w := by rw [keep 7 (of_decide_eq_true rfl)]; exact h7
  have ρ1_15 : ρ1 15 = .int .i64 m := by rw [keep 15 (of_decide_eq_true rfl)]; exact h15
  unfold b24_6
  by_cases ha : a < k
  rotate_left
  · have : a = k := by omega
    subst this
    simp only [↓SP, SQ, SG, SL, ↓reduceIte, undef, iop, isShift, Nat.reduceEqDiff, reduceCtorEq, Nat.reduceAdd, Nat.reduceMul, Nat.reduceSub, Nat.reduceLT, Nat.reduceLeDiff, Int.reduceLT, Int.reduceLE, Int.reduceEq, Int.reduceGT, Int.reduceGE, Int.reduceNeg, Int.reduceToNat, ne_eq, if_true, if_false, List.map_cons, List.map_nil, Nat.le_refl, SM, r24_29,  ρ1_0, ρ1_7, q16, Nat.lt_irrefl]
    exact ⟨kg', xg', f', r, M⟩
  simp only [↓SP, SQ, SG, SL, ↓reduceIte, undef, iop, isShift, Nat.reduceEqDiff, reduceCtorEq, Nat.reduceAdd, Nat.reduceMul, Nat.reduceSub, Nat.reduceLT, Nat.reduceLeDiff, Int.reduceLT, Int.reduceLE, Int.reduceEq, Int.reduceGT, Int.reduceGE, Int.reduceNeg, Int.reduceToNat, ne_eq, if_true, if_false, List.map_cons, List.map_nil, Nat.le_refl, SM, r24_29, r24_31,  ρ1_0, ρ1_7, q16, ha]
  refine wp_doneK Call.mono (viaLoop kg' xg' hm ha hk s0 M ρ1_0 ρ1_7 r ρ1_15 q16 rfl) ?_
  rintro e ρ4 g4 ⟨rfl, kg4, xg4, f4, r4, M4⟩ keep4
  have k16 := (keep4 16 (of_decide_eq_true rfl)).trans q16
  have hws : IntKind.wrap .i64 ((a : Int) + 1) = ((a + 1 : Nat) : Int) := by rw [wrap_in] <;> omega
  simp only [↓SP, SQ, SG, SL, ↓reduceIte, undef, iop, isShift, Nat.reduceEqDiff, reduceCtorEq, Nat.reduceAdd, Nat.reduceMul, Nat.reduceSub, Nat.reduceLT, Nat.reduceLeDiff, Int.reduceLT, Int.reduceLE, Int.reduceEq, Int.reduceGT, Int.reduceGE, Int.reduceNeg, Int.reduceToNat, ne_eq, if_true, if_false, List.map_cons, List.map_nil, Nat.le_refl, SM, r24_30,  k16, hws]
  exact ⟨q - 1, by omega, kg4, xg4, a + 1, f4, rfl, by omega, r4, M4.next⟩

set_option maxHeartbeats 1000000 in
theorem triLoops {ρ : Nat → Value} {h g : Heap} (kg : Ok g) (xg : Ext h g) {w : Value} {k : Nat} (hk : k ≤ 4) {f : Nat → Nat → Int} (s0 : Sy k k f) (h0 : ρ 0 = .int .i64 k) (h7 : ρ 7 = w) (hw : OF h g w k f) (h15 : ρ 15 = .int .i64 0) :
    wpC (Call T1) (.loop b24_7) (fun e ρ' g' => e = .exit 8 ∧ Ok g' ∧ Ext h g' ∧ ∃ f', OF h g' w k f' ∧ Tri k k f') ρ g := by
  refine wp_loopK Call.mono (fun q ρ g' => Ok g' ∧ Ext h g' ∧ ∃ (m : Nat) (f' : Nat → Nat → Int), ρ 15 = .int .i64 m ∧ m + q = k ∧ OF h g' w k f' ∧ Tri k m f') ?_ (m := k) ⟨kg, xg, 0, f, h15, by omega, hw, s0, fun p i j hp => by omega⟩
  rintro q ρ1 g' ⟨kg', xg', m, f', q15, hq, r, t⟩ keep
  have ρ1_0 : ρ1 0 = .int .i64 k := by rw [keep 0 (of_decide_eq_true rfl)]; exact h0
  have ρ1_7 : ρ1 7 = w := by rw [keep 7 (of_decide_eq_true rfl)]; exact h7
  unfold b24_7
  by_cases hm : m < k
  rotate_left
  · have : m = k := by omega
    subst this
    simp only [↓SP, SQ, SG, SL, ↓reduceIte, undef, iop, isShift, Nat.reduceEqDiff, reduceCtorEq, Nat.reduceAdd, Nat.reduceMul, Nat.reduceSub, Nat.reduceLT, Nat.reduceLeDiff, Int.reduceLT, Int.reduceLE, Int.reduceEq, Int.reduceGT, Int.reduceGE, Int.reduceNeg, Int.reduceToNat, ne_eq, if_true, if_false, List.map_cons, List.map_nil, Nat.le_refl, SM, r24_26,  ρ1_0, ρ1_7, q15, Nat.lt_irrefl]
    exact ⟨kg', xg', f', r, t⟩
  simp only [↓SP, SQ, SG, SL, ↓reduceIte, undef, iop, isShift, Nat.reduceEqDiff, reduceCtorEq, Nat.reduceAdd, Nat.reduceMul, Nat.reduceSub, Nat.reduceLT, Nat.reduceLeDiff, Int.reduceLT, Int.reduceLE, Int.reduceEq, Int.reduceGT, Int.reduceGE, Int.reduceNeg, Int.reduceToNat, ne_eq, if_true, if_false, List.map_cons, List.map_nil, Nat.le_refl, SM, r24_26, r24_28,  ρ1_0, ρ1_7, q15, hm]
  refine wp_doneK Call.mono (viaLoops kg' xg' hm hk t.sy ρ1_0 ρ1_7 r q15 rfl) ?_
  rintro e ρ4 g4 ⟨rfl, kg4, xg4, f4, r4, M4⟩ keep4
  have k15 := (keep4 15 (of_decide_eq_true rfl)).trans q15
  have hws : IntKind.wrap .i64 ((m : Int) + 1) = ((m + 1 : Nat) : Int) := by rw [wrap_in] <;> omega
  simp only [↓SP, SQ, SG, SL, ↓reduceIte, undef, iop, isShift, Nat.reduceEqDiff, reduceCtorEq, Nat.reduceAdd, Nat.reduceMul, Nat.reduceSub, Nat.reduceLT, Nat.reduceLeDiff, Int.reduceLT, Int.reduceLE, Int.reduceEq, Int.reduceGT, Int.reduceGE, Int.reduceNeg, Int.reduceToNat, ne_eq, if_true, if_false, List.map_cons, List.map_nil, Nat.le_refl, SM, r24_27,  k15, hws]
  exact ⟨q - 1, by omega, kg4, xg4, m + 1, f4, rfl, by omega, r4, t.step hm M4⟩

set_option maxHeartbeats 1000000 in
theorem lawCosts_spec {h : Heap} (kk : Ok h) {k : Nat} (hk : 1 ≤ k ∧ k ≤ 4) {x : Value} {xs : List Int} (hx : Bytes h x xs) (metric : Bool) :
    Call T1 24 [.int .i64 k, x, .bool metric] h (fun v h' => ∃ f, OF h h' v k f ∧ Bd k f ∧ (metric = true → Tri k k f) ∧ More h h') := by
  refine (Call.more kk (R := fun v h' => ∃ f, OF h h' v k f ∧ Bd k f ∧ (metric = true → Tri k k f)) ?_).imp (fun v h' ⟨⟨f, a, b, c⟩, d⟩ => ⟨f, a, b, c, d⟩)
  refine Call.of (fn := f24) rfl (by simp [f24]) ?_
  unfold f24
  obtain ⟨xa, ka⟩ := ext_alloc0 kk
  have e1 := fun rows => OM.empty h (h.alloc { cells := [], esz := 0 }) h.next rows
  simp only [↓SP, SQ, SG, SL, ↓reduceIte, undef, iop, isShift, Nat.reduceEqDiff, reduceCtorEq, Nat.reduceAdd, Nat.reduceMul, Nat.reduceSub, Nat.reduceLT, Nat.reduceLeDiff, Int.reduceLT, Int.reduceLE, Int.reduceEq, Int.reduceGT, Int.reduceGE, Int.reduceNeg, Int.reduceToNat, ne_eq, if_true, if_false, List.map_cons, List.map_nil, Nat.le_refl, SM, r24_0, r24_1, r24_2]
  generalize h.alloc { cells := [], esz := 0 } = g at *
  refine wp_doneK Call.mono (lawRows kk ka xa hx hk rfl rfl rfl e1 rfl) ?_
  rintro e ρ1 g1 ⟨rfl, k1, x1, r1⟩ keep
  have ρ1_0 : ρ1 0 = .int .i64 k := by rw [keep 0 (of_decide_eq_true rfl)]; first | rfl | assumption
  have ρ1_2 : ρ1 2 = .bool metric := by rw [keep 2 (of_decide_eq_true rfl)]; first | rfl | assumption
  have b1 := numF_bd (k := k) hx.2
  generalize numF k xs = f1 at *
  generalize hw7 : ρ1 7 = w at *
  cases metric with
  | false =>
    simp only [↓SP, SQ, SG, SL, ↓reduceIte, undef, iop, isShift, Nat.reduceEqDiff, reduceCtorEq, Nat.reduceAdd, Nat.reduceMul, Nat.reduceSub, Nat.reduceLT, Nat.reduceLeDiff, Int.reduceLT, Int.reduceLE, Int.reduceEq, Int.reduceGT, Int.reduceGE, Int.reduceNeg, Int.reduceToNat, ne_eq, if_true, if_false, List.map_cons, List.map_nil, Nat.le_refl, SM, r24_15, r24_16,  ρ1_0, ρ1_2, hw7]
    exact ⟨⟨f1, r1, b1, fun h => h.elim⟩, x1⟩
  | true =>
    simp only [↓SP, SQ, SG, SL, ↓reduceIte, undef, iop, isShift, Nat.reduceEqDiff, reduceCtorEq, Nat.reduceAdd, Nat.reduceMul, Nat.reduceSub, Nat.reduceLT, Nat.reduceLeDiff, Int.reduceLT, Int.reduceLE, Int.reduceEq, Int.reduceGT, Int.reduceGE, Int.reduceNeg, Int.reduceToNat, ne_eq, if_true, if_false, List.map_cons, List.map_nil, Nat.le_refl, SM, r24_15, r24_17,  ρ1_0, ρ1_2, hw7]
    refine wp_doneK Call.mono (symLoops k1 x1 hk.2 (.start b1) ρ1_0 hw7 r1 rfl) ?_
    rintro e ρ2 g2 ⟨rfl, k2, x2, f2, r2, s2⟩ keep2
    have ρ2_0 := (keep2 0 (of_decide_eq_true rfl)).trans ρ1_0
    have ρ2_7 := (keep2 7 (of_decide_eq_true rfl)).trans hw7
    simp only [↓SP, SQ, SG, SL, ↓reduceIte, undef, iop, isShift, Nat.reduceEqDiff, reduceCtorEq, Nat.reduceAdd, Nat.reduceMul, Nat.reduceSub, Nat.reduceLT, Nat.reduceLeDiff, Int.reduceLT, Int.reduceLE, Int.reduceEq, Int.reduceGT, Int.reduceGE, Int.reduceNeg, Int.reduceToNat, ne_eq, if_true, if_false, List.map_cons, List.map_nil, Nat.le_refl, SM, r24_25,  ρ2_0, ρ2_7]
    refine wp_doneK Call.mono (triLoops k2 x2 hk.2 s2 ρ2_0 ρ2_7 r2 rfl) ?_
    rintro e ρ3 g3 ⟨rfl, k3, x3, f3, r3, t3⟩ keep3
    have ρ3_7 := (keep3 7 (of_decide_eq_true rfl)).trans ρ2_7
    simp only [↓SP, SQ, SG, SL, ↓reduceIte, undef, iop, isShift, Nat.reduceEqDiff, reduceCtorEq, Nat.reduceAdd, Nat.reduceMul, Nat.reduceSub, Nat.reduceLT, Nat.reduceLeDiff, Int.reduceLT, Int.reduceLE, Int.reduceEq, Int.reduceGT, Int.reduceGE, Int.reduceNeg, Int.reduceToNat, ne_eq, if_true, if_false, List.map_cons, List.map_nil, Nat.le_refl, SM, r24_35,  ρ3_7]
    exact ⟨⟨f3, r3, t3.sy.bd, fun _ => t3⟩, x3⟩

end Go.AM.K
