/- Track: how the laws derive trees and states. -/
import Derived.Test.YtkhhdemhlbaboaaAMS
import Derived.Test.YtkhhdemhlbaboaaLives
import Derived.Test.YtkhhdemhlbaboaaTP3
set_option linter.unusedVariables false
set_option linter.unusedSimpArgs false
set_option maxRecDepth 20000
namespace Go.AM.K
open Go.AM Go.AM.Fn Go.AM.TP
attribute [local congr] ite_cond

theorem ext_alloc0 {h : Heap} (k : Ok h) : Ext h (h.alloc { cells := [], esz := 0 }) ∧ Ok (h.alloc { cells := [], esz := 0 }) := ⟨.alloc _ _, k.alloc _⟩

theorem roots_spec {h : Heap} (kk : Ok h) {n : Nat} (hn : n ≤ 1000) : Call T1 32 [.int .i64 n] h (fun v h' => IL h h' v (upto n) ∧ More h h') := by
  refine (Call.more kk (R := fun v h' => IL h h' v (upto n)) ?_).imp (fun v h' ⟨a, b⟩ => ⟨a, b⟩)
  refine Call.of (fn := f32) rfl (by simp [f32]) ?_
  unfold f32
  obtain ⟨x1, k1⟩ := ext_alloc0 kk
  have e1 := IL.empty h (h.alloc { cells := [], esz := 0 }) h.next
  simp only [↓SP, SQ, SG, SL, ↓reduceIte, undef, iop, isShift, Nat.reduceEqDiff, reduceCtorEq, Nat.reduceAdd, Nat.reduceMul, Nat.reduceSub, Nat.reduceLT, Nat.reduceLeDiff, Int.reduceLT, Int.reduceLE, Int.reduceEq, Int.reduceGT, Int.reduceGE, Int.reduceNeg, Int.reduceToNat, ne_eq, if_true, if_false, List.map_cons, List.map_nil, Nat.le_refl, SM, r32_0, r32_1, r32_2]
  generalize h.alloc { cells := [], esz := 0 } = g at *
  refine wp_loopK Call.mono (fun q ρ g' => Ok g' ∧ Ext h g' ∧ ∃ (i : Nat) (w : Value), ρ 3 = w ∧ ρ 4 = .int .i64 i ∧ i + q = n ∧ IL h g' w (upto i)) ?_ (m := n) ⟨k1, x1, 0, _, rfl, rfl, by omega, e1⟩
  rintro q ρ g' ⟨kg, xg, i, w, q3, q4, hq, r⟩ keep
  have ρ_0 : ρ 0 = .int .i64 n := by rw [keep 0 (of_decide_eq_true rfl)]; first | rfl | assumption
  unfold b32_1
  by_cases hi : i < n
  · obtain ⟨v', g2, e, o, x2, k2, ov⟩ := r.push xg kg (by simp [upto]; omega) (i : Int)
    have hws : IntKind.wrap .i64 ((i : Int) + 1) = ((i + 1 : Nat) : Int) := by rw [wrap_in] <;> omega
    simp only [↓SP, SQ, SG, SL, ↓reduceIte, undef, iop, isShift, Nat.reduceEqDiff, reduceCtorEq, Nat.reduceAdd, Nat.reduceMul, Nat.reduceSub, Nat.reduceLT, Nat.reduceLeDiff, Int.reduceLT, Int.reduceLE, Int.reduceEq, Int.reduceGT, Int.reduceGE, Int.reduceNeg, Int.reduceToNat, ne_eq, if_true, if_false, List.map_cons, List.map_nil, Nat.le_refl, SM, r32_3, r32_4, r32_5,  ρ_0, q3, q4, hi, e, hws]
    exact ⟨q - 1, by omega, k2, x2, i + 1, _, rfl, rfl, by omega, by rw [upto_succ]; exact o.elder xg.next⟩
  · have : i = n := by omega
    subst this
    simp only [↓SP, SQ, SG, SL, ↓reduceIte, undef, iop, isShift, Nat.reduceEqDiff, reduceCtorEq, Nat.reduceAdd, Nat.reduceMul, Nat.reduceSub, Nat.reduceLT, Nat.reduceLeDiff, Int.reduceLT, Int.reduceLE, Int.reduceEq, Int.reduceGT, Int.reduceGE, Int.reduceNeg, Int.reduceToNat, ne_eq, if_true, if_false, List.map_cons, List.map_nil, Nat.le_refl, SM, r32_3, r32_6,  ρ_0, q3, q4, Nat.lt_irrefl]
    exact ⟨r, xg⟩

theorem mod_small {x k : Int} (h0 : 0 ≤ x) (hx : x < 256) (hk : 0 < k) (hk2 : k ≤ 1000) : IntKind.wrap .i64 (x.tmod k) = x.tmod k ∧ 0 ≤ x.tmod k ∧ x.tmod k < k := by
  have h1 : x.tmod k = x % k := Int.tmod_eq_emod_of_nonneg h0
  have h2 := Int.emod_nonneg x (show k ≠ 0 by omega)
  have h3 := Int.emod_lt_of_pos x hk
  rw [h1]
  exact ⟨by rw [wrap_in] <;> omega, h2, h3⟩

theorem statesB_snoc {n k : Int} {xs : List Int} (h : statesB n k xs = true) {x : Int} (h0 : 0 ≤ x) (h1 : x < k) : statesB (n + 1) k (xs ++ [x]) = true := by
  simp only [statesB, Bool.and_eq_true, decide_eq_true_eq, List.all_append, List.all_cons, List.all_nil, List.length_append, List.length_singleton] at h ⊢
  refine ⟨by omega, h.2, ⟨h0, h1⟩, trivial⟩

/-- Numbers of a byte each. -/
def Bytes (h : Heap) (v : Value) (xs : List Int) : Prop := Nums .u8 h v xs ∧ ∀ x ∈ xs, 0 ≤ x ∧ x < 256
theorem Bytes.ext {h h' : Heap} (x : Ext h h') (o : Ok h) {v : Value} {xs : List Int} (r : Bytes h v xs) : Bytes h' v xs := ⟨r.1.ext x o, r.2⟩
theorem Bytes.nil {h : Heap} : Bytes h (.slice none 0 0) [] := ⟨Nums.nil, by simp⟩

theorem lawStates_spec {h : Heap} (kk : Ok h) {n k : Nat} (hn : n ≤ 1000) (hk : 1 ≤ k ∧ k ≤ 1000) {x : Value} {xs : List Int} (hx : Bytes h x xs) : Call T1 19 [.int .i64 n, .int .i64 k, x] h (fun v h' => ∃ ys : List Int, IL h h' v ys ∧ statesB n k ys = true ∧ More h h') := by
  refine (Call.more kk (R := fun v h' => ∃ ys : List Int, IL h h' v ys ∧ statesB n k ys = true) ?_).imp (fun v h' ⟨⟨ys, a, c⟩, b⟩ => ⟨ys, a, c, b⟩)
  refine Call.of (fn := f19) rfl (by simp [f19]) ?_
  unfold f19
  obtain ⟨x1, k1⟩ := ext_alloc0 kk
  have e1 := IL.empty h (h.alloc { cells := [], esz := 0 }) h.next
  have hlen := hx.1.len
  have hsm := hx.1.small
  simp only [↓SP, SQ, SG, SL, ↓reduceIte, undef, iop, isShift, Nat.reduceEqDiff, reduceCtorEq, Nat.reduceAdd, Nat.reduceMul, Nat.reduceSub, Nat.reduceLT, Nat.reduceLeDiff, Int.reduceLT, Int.reduceLE, Int.reduceEq, Int.reduceGT, Int.reduceGE, Int.reduceNeg, Int.reduceToNat, ne_eq, if_true, if_false, List.map_cons, List.map_nil, Nat.le_refl, SM, r19_0, r19_1, r19_2]
  generalize h.alloc { cells := [], esz := 0 } = g at *
  refine wp_loopK Call.mono (fun q ρ g' => Ok g' ∧ Ext h g' ∧ ∃ (i : Nat) (w : Value) (ys : List Int), ρ 7 = w ∧ ρ 8 = .int .i64 i ∧ i + q = n ∧ IL h g' w ys ∧ statesB i k ys = true) ?_ (m := n) ⟨k1, x1, 0, _, [], rfl, rfl, by omega, e1, rfl⟩
  rintro q ρ g' ⟨kg, xg, i, w, ys, q7, q8, hq, r, hs⟩ keep
  have ρ_0 : ρ 0 = .int .i64 n := by rw [keep 0 (of_decide_eq_true rfl)]; first | rfl | assumption
  have ρ_1 : ρ 1 = .int .i64 k := by rw [keep 1 (of_decide_eq_true rfl)]; first | rfl | assumption
  have ρ_2 : ρ 2 = x := by rw [keep 2 (of_decide_eq_true rfl)]; first | rfl | assumption
  unfold b19_1
  have hyl : ys.length = i := by simp only [statesB, Bool.and_eq_true, decide_eq_true_eq] at hs; omega
  have hws : i < n → IntKind.wrap .i64 ((i : Int) + 1) = ((i + 1 : Nat) : Int) := fun _ => by rw [wrap_in] <;> omega
  by_cases hi : i < n
  · have hws := hws hi
    by_cases hl : i < xs.length
    · obtain ⟨p, a1, a2⟩ := (hx.1.ext xg kk).row hl
      have hb := hx.2 _ (List.getElem_mem hl)
      have hm := mod_small hb.1 hb.2 (k := k) (by omega) (by omega)
      have hwx : IntKind.wrap .i64 xs[i] = xs[i] := by rw [wrap_in] <;> omega
      obtain ⟨v', g2, e, o, x2, k2, ov⟩ := r.push xg kg (by omega) (xs[i].tmod k)
      have hk0 : ¬ (k : Int) = 0 := by omega
      have hk0' : ¬ k = 0 := by omega
      simp only [↓SP, SQ, SG, SL, ↓reduceIte, undef, iop, isShift, Nat.reduceEqDiff, reduceCtorEq, Nat.reduceAdd, Nat.reduceMul, Nat.reduceSub, Nat.reduceLT, Nat.reduceLeDiff, Int.reduceLT, Int.reduceLE, Int.reduceEq, Int.reduceGT, Int.reduceGE, Int.reduceNeg, Int.reduceToNat, ne_eq, if_true, if_false, List.map_cons, List.map_nil, Nat.le_refl, SM, r19_3, r19_4, r19_5, r19_6, r19_7, r19_8,  ρ_0, ρ_1, ρ_2, q7, q8, hi, hl, hlen, a1, a2, hwx, hk0, hm.1, e, hws]
      exact ⟨q - 1, by omega, k2, x2, i + 1, _, _, rfl, rfl, by omega, o.elder xg.next, statesB_snoc hs hm.2.1 hm.2.2⟩
    · obtain ⟨v', g2, e, o, x2, k2, ov⟩ := r.push xg kg (by omega) 0
      simp only [↓SP, SQ, SG, SL, ↓reduceIte, undef, iop, isShift, Nat.reduceEqDiff, reduceCtorEq, Nat.reduceAdd, Nat.reduceMul, Nat.reduceSub, Nat.reduceLT, Nat.reduceLeDiff, Int.reduceLT, Int.reduceLE, Int.reduceEq, Int.reduceGT, Int.reduceGE, Int.reduceNeg, Int.reduceToNat, ne_eq, if_true, if_false, List.map_cons, List.map_nil, Nat.le_refl, SM, r19_3, r19_4, r19_5, r19_6, r19_8,  ρ_0, ρ_1, ρ_2, q7, q8, hi, hl, hlen, e, hws]
      exact ⟨q - 1, by omega, k2, x2, i + 1, _, _, rfl, rfl, by omega, o.elder xg.next, statesB_snoc hs (by omega) (by omega)⟩
  · have : i = n := by omega
    subst this
    simp only [↓SP, SQ, SG, SL, ↓reduceIte, undef, iop, isShift, Nat.reduceEqDiff, reduceCtorEq, Nat.reduceAdd, Nat.reduceMul, Nat.reduceSub, Nat.reduceLT, Nat.reduceLeDiff, Int.reduceLT, Int.reduceLE, Int.reduceEq, Int.reduceGT, Int.reduceGE, Int.reduceNeg, Int.reduceToNat, ne_eq, if_true, if_false, List.map_cons, List.map_nil, Nat.le_refl, SM, r19_3, r19_9,  ρ_0, q7, q8, Nat.lt_irrefl]
    exact ⟨⟨ys, r, hs⟩, xg⟩

end Go.AM.K
