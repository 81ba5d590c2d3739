/- Track: how the laws derive trees. -/
import Derived.Test.YtkhhdemhlbaboaaAMS
import Derived.Test.YtkhhdemhlbaboaaK10
set_option linter.unusedVariables false
set_option linter.unusedSimpArgs false
set_option maxRecDepth 20000
namespace Go.AM.K
open Go.AM Go.AM.Fn Go.AM.TP
attribute [local congr] ite_cond

/-- The roots but two. -/
theorem rest_loop {ρ : Nat → Value} {g0 g : Heap} (kg : Ok g) (xg : Ext g0 g) {w u : Value} {roots : List Int} (hr : Ints g0 w roots) (k0 : Ok g0) (hrl : roots.length ≤ 1000) {a c : Nat} (h7 : ρ 7 = w) (h11 : ρ 11 = .int .i64 a) (h12 : ρ 12 = .int .i64 c) (h13 : ρ 13 = u) (hu : IL g0 g u []) (h14 : ρ 14 = .int .i64 0) :
    wpC (Call T1) (.loop b18_1) (fun e ρ' g' => e = .exit 2 ∧ Ok g' ∧ Ext g0 g' ∧ IL g0 g' (ρ' 13) (restN roots a c roots.length)) ρ g := by
  have hlen := hr.len
  refine wp_loopK Call.mono (fun q ρ g' => Ok g' ∧ Ext g0 g' ∧ ∃ (i : Nat) (u' : Value), ρ 13 = u' ∧ ρ 14 = .int .i64 i ∧ i + q = roots.length ∧ IL g0 g' u' (restN roots a c i)) ?_ (m := roots.length) ⟨kg, xg, 0, u, h13, h14, by omega, hu⟩
  rintro q ρ1 g' ⟨kg', xg', i, u', q13, q14, hq, r⟩ keep
  have ρ1_7 : ρ1 7 = w := by rw [keep 7 (of_decide_eq_true rfl)]; exact h7
  have ρ1_11 : ρ1 11 = .int .i64 a := by rw [keep 11 (of_decide_eq_true rfl)]; exact h11
  have ρ1_12 : ρ1 12 = .int .i64 c := by rw [keep 12 (of_decide_eq_true rfl)]; exact h12
  unfold b18_1
  have hl := restN_length roots (a := a) (c := c)
  by_cases hi : i < roots.length
  · obtain ⟨p, a1, a2⟩ := (hr.ext xg' k0).row hi
    have hws : IntKind.wrap .i64 ((i : Int) + 1) = ((i + 1 : Nat) : Int) := by rw [wrap_in] <;> omega
    have hlr := restN_le roots a c i
    obtain ⟨v', g2, e, o, x2, k2, ov⟩ := r.push xg' kg' (by omega) roots[i]
    by_cases d1 : i = a
    · have hn : restN roots a c (i + 1) = restN roots a c i := by rw [restN, if_neg (fun h => h.1 d1)]
      subst d1
      simp only [↓SP, SQ, SG, SL, ↓reduceIte, undef, iop, isShift, Nat.reduceEqDiff, reduceCtorEq, Nat.reduceAdd, Nat.reduceMul, Nat.reduceSub, Nat.reduceLT, Nat.reduceLeDiff, Int.reduceLT, Int.reduceLE, Int.reduceEq, Int.reduceGT, Int.reduceGE, Int.reduceNeg, Int.reduceToNat, ne_eq, if_true, if_false, List.map_cons, List.map_nil, Nat.le_refl, SM, r18_14, r18_15, r18_16,  ρ1_7, ρ1_11, ρ1_12, q13, q14, hlen, hi, hws]
      exact ⟨q - 1, by omega, kg', xg', i + 1, _, by first | rfl | assumption, rfl, by omega, by rw [hn]; exact r⟩
    · have d1' : ¬ (i : Int) = (a : Int) := by omega
      by_cases d2 : i = c
      · have hn : restN roots a c (i + 1) = restN roots a c i := by rw [restN, if_neg (fun h => h.2 d2)]
        subst d2
        simp only [↓SP, SQ, SG, SL, ↓reduceIte, undef, iop, isShift, Nat.reduceEqDiff, reduceCtorEq, Nat.reduceAdd, Nat.reduceMul, Nat.reduceSub, Nat.reduceLT, Nat.reduceLeDiff, Int.reduceLT, Int.reduceLE, Int.reduceEq, Int.reduceGT, Int.reduceGE, Int.reduceNeg, Int.reduceToNat, ne_eq, if_true, if_false, List.map_cons, List.map_nil, Nat.le_refl, SM, r18_14, r18_15, r18_16,  ρ1_7, ρ1_11, ρ1_12, q13, q14, hlen, hi, d1', hws]
        exact ⟨q - 1, by omega, kg', xg', i + 1, _, by first | rfl | assumption, rfl, by omega, by rw [hn]; exact r⟩
      · have d2' : ¬ (i : Int) = (c : Int) := by omega
        have hn : restN roots a c (i + 1) = restN roots a c i ++ [roots[i]] := by rw [restN, if_pos ⟨d1, d2⟩, getD_in hi]
        simp only [↓SP, SQ, SG, SL, ↓reduceIte, undef, iop, isShift, Nat.reduceEqDiff, reduceCtorEq, Nat.reduceAdd, Nat.reduceMul, Nat.reduceSub, Nat.reduceLT, Nat.reduceLeDiff, Int.reduceLT, Int.reduceLE, Int.reduceEq, Int.reduceGT, Int.reduceGE, Int.reduceNeg, Int.reduceToNat, ne_eq, if_true, if_false, List.map_cons, List.map_nil, Nat.le_refl, SM, r18_14, r18_15, r18_16, r18_17,  ρ1_7, ρ1_11, ρ1_12, q13, q14, hlen, hi, d1', d2', a1, a2, e, hws]
        exact ⟨q - 1, by omega, k2, x2, i + 1, _, rfl, rfl, by omega, by rw [hn]; exact o.elder xg'.next⟩
  · have : i = roots.length := by omega
    subst this
    simp only [↓SP, SQ, SG, SL, ↓reduceIte, undef, iop, isShift, Nat.reduceEqDiff, reduceCtorEq, Nat.reduceAdd, Nat.reduceMul, Nat.reduceSub, Nat.reduceLT, Nat.reduceLeDiff, Int.reduceLT, Int.reduceLE, Int.reduceEq, Int.reduceGT, Int.reduceGE, Int.reduceNeg, Int.reduceToNat, ne_eq, if_true, if_false, List.map_cons, List.map_nil, Nat.le_refl, SM, r18_14,  ρ1_7, q13, q14, hlen, Nat.lt_irrefl]
    exact ⟨kg', xg', r⟩

theorem gblk_empty {b i : Nat} (h : GBlk (.slice (some ⟨b, 0, none⟩) 0 0) i) : False := by
  obtain ⟨c, e⟩ := h; simp at e

theorem madeLen_ok {n : Nat} {js : List (Int × Int)} {roots : List Int} (M : MI n js roots) (hn : n ≤ 8) : roots.length ≤ 8 ∧ js.length ≤ 8 := by have := M.size; omega

set_option maxHeartbeats 4000000 in
theorem made_spec {h : Heap} (kk : Ok h) {N : Int} (hN : 0 ≤ N ∧ N < 256) {x : Value} {xs : List Int} (hx : Bytes h x xs) :
    Call T1 18 [.int .u8 N, x] h (fun v h' => ∃ (n : Nat) (j : Value) (js : List (Int × Int)), v = .tuple #[.int .i64 n, j] ∧ 2 ≤ n ∧ n ≤ 8 ∧ treeB n js = true ∧ PL h h' j js ∧ More h h') := by
  refine (Call.more kk (R := fun v h' => ∃ (n : Nat) (j : Value) (js : List (Int × Int)), v = .tuple #[.int .i64 n, j] ∧ 2 ≤ n ∧ n ≤ 8 ∧ treeB n js = true ∧ PL h h' j js) ?_).imp (fun v h' ⟨⟨n, j, js, a, b, c, d, e⟩, f⟩ => ⟨n, j, js, a, b, c, d, e, f⟩)
  refine Call.of (fn := f18) rfl (by simp [f18]) ?_
  unfold f18
  obtain ⟨m, rfl⟩ : ∃ m : Nat, N = m := ⟨N.toNat, by omega⟩
  obtain ⟨n, hn⟩ : ∃ n : Nat, m % 7 + 2 = n := ⟨_, rfl⟩
  have hn8 : 2 ≤ n ∧ n ≤ 8 := by omega
  have u1 : IntKind.wrap .i64 (m : Int) = m := by rw [wrap_in] <;> omega
  have u2 : Int.tmod (m : Int) 7 = ((m % 7 : Nat) : Int) := tmod_nat (b := 7)
  have u3 : IntKind.wrap .i64 (((m % 7 : Nat) : Int) + 2) = (n : Int) := by rw [wrap_in] <;> omega
  have hlenx := hx.1.len
  have hsmx := hx.1.small
  simp only [↓SP, SQ, SG, SL, ↓reduceIte, undef, iop, isShift, Nat.reduceEqDiff, reduceCtorEq, Nat.reduceAdd, Nat.reduceMul, Nat.reduceSub, Nat.reduceLT, Nat.reduceLeDiff, Int.reduceLT, Int.reduceLE, Int.reduceEq, Int.reduceGT, Int.reduceGE, Int.reduceNeg, Int.reduceToNat, ne_eq, if_true, if_false, List.map_cons, List.map_nil, Nat.le_refl, SM, r18_0, r18_1, r18_2,  u1, u2, u3]
  refine (roots_spec kk (n := n) (by omega)).imp ?_
  rintro w g ⟨r0, m0⟩
  obtain ⟨xa, ka⟩ := ext_alloc0 m0.2
  have pe : PL h (g.alloc { cells := [], esz := 0 }) (.slice (some ⟨g.next, 0, none⟩) 0 0) [] := Own.empty _ _ _ _
  have r1 := r0.step xa m0.2
  have hg1 := m0.1.trans xa
  simp only [↓SP, SQ, SG, SL, ↓reduceIte, undef, iop, isShift, Nat.reduceEqDiff, reduceCtorEq, Nat.reduceAdd, Nat.reduceMul, Nat.reduceSub, Nat.reduceLT, Nat.reduceLeDiff, Int.reduceLT, Int.reduceLE, Int.reduceEq, Int.reduceGT, Int.reduceGE, Int.reduceNeg, Int.reduceToNat, ne_eq, if_true, if_false, List.map_cons, List.map_nil, Nat.le_refl, SM, r18_2, r18_3]
  generalize (g.alloc { cells := [], esz := 0 }) = g1 at *
  refine wp_loopK Call.mono (fun q ρ g' => Ok g' ∧ Ext h g' ∧ ∃ (js : List (Int × Int)) (roots : List Int) (w7 w8 : Value), ρ 7 = w7 ∧ ρ 8 = w8 ∧ ρ 9 = .int .i64 js.length ∧ roots.length = q ∧ MI n js roots ∧ roots ≠ [] ∧ IL h g' w7 roots ∧ PL h g' w8 js ∧ ∀ b, GBlk w8 b → ¬ InBlk w7 b) ?_ (m := n)
    ⟨ka, hg1, [], _, _, _, rfl, rfl, rfl, by simp [upto], MI.start n, (by intro e; have := congrArg List.length e; simp [upto] at this; omega), r1, pe, fun b hb => (gblk_empty hb).elim⟩
  rintro q ρ g2 ⟨k2, x2, js, roots, w7, w8, q7, q8, q9, hq, M, hne, ro, pl, sep⟩ keep
  have ρ_1 : ρ 1 = x := by rw [keep 1 (of_decide_eq_true rfl)]; first | rfl | assumption
  have ρ_6 : ρ 6 = .int .i64 n := by rw [keep 6 (of_decide_eq_true rfl)]; first | rfl | assumption
  unfold b18_2
  have hlen := ro.ints.len
  have hsz := M.size
  have hpos : roots.length ≠ 0 := fun e => hne (List.length_eq_zero_iff.1 e)
  by_cases h1 : 1 < roots.length
  rotate_left
  · have h1' : ¬ (1 : Int) < (roots.length : Int) := by omega
    simp only [↓SP, SQ, SG, SL, ↓reduceIte, undef, iop, isShift, Nat.reduceEqDiff, reduceCtorEq, Nat.reduceAdd, Nat.reduceMul, Nat.reduceSub, Nat.reduceLT, Nat.reduceLeDiff, Int.reduceLT, Int.reduceLE, Int.reduceEq, Int.reduceGT, Int.reduceGE, Int.reduceNeg, Int.reduceToNat, ne_eq, if_true, if_false, List.map_cons, List.map_nil, Nat.le_refl, SM, r18_4, r18_19,  ρ_1, ρ_6, q7, q8, q9, hlen, h1', h1]
    exact ⟨⟨n, _, js, rfl, by omega, by omega, M.tree hn8 (by omega), pl⟩, x2⟩
  have h1' : (1 : Int) < (roots.length : Int) := by omega
  obtain ⟨v, hv, hcase⟩ : ∃ v : Nat, v < 256 ∧ ((js.length < xs.length ∧ ∃ p, iaddrA 1 x (.int .i64 js.length) = some p ∧ loadA g2 1 false p = some (.int .u8 v)) ∨ (¬ js.length < xs.length ∧ v = 0)) := by
    by_cases hl : js.length < xs.length
    · obtain ⟨p, a1, a2⟩ := (hx.1.ext x2 kk).row hl
      have hb := hx.2 _ (List.getElem_mem hl)
      refine ⟨xs[js.length].toNat, by omega, .inl ⟨hl, p, a1, ?_⟩⟩
      rw [a2, Int.toNat_of_nonneg hb.1]
    · exact ⟨0, by omega, .inr ⟨hl, rfl⟩⟩
  obtain ⟨L, hL⟩ : ∃ L, roots.length = L := ⟨_, rfl⟩
  obtain ⟨a, ha⟩ : ∃ a, v % L = a := ⟨_, rfl⟩
  obtain ⟨b, hb⟩ : ∃ b, v / 8 % (L - 1) = b := ⟨_, rfl⟩
  obtain ⟨c, hc⟩ : ∃ c, (a + 1 + b) % L = c := ⟨_, rfl⟩
  have haL : a < L := by rw [← ha]; exact Nat.mod_lt _ (by omega)
  have hbL : b < L - 1 := by rw [← hb]; exact Nat.mod_lt _ (by omega)
  have hcL : c < L := by rw [← hc]; exact Nat.mod_lt _ (by omega)
  have hac : a ≠ c := by
    intro e
    rw [e] at hc
    by_cases hw : c + 1 + b < L
    · rw [Nat.mod_eq_of_lt hw] at hc; omega
    · rw [Nat.mod_eq_sub_mod (by omega), Nat.mod_eq_of_lt (by omega)] at hc; omega
  have hL8 : L ≤ 8 := by omega
  have f1 : Int.tmod (v : Int) (L : Int) = (a : Int) := by rw [tmod_nat, ha]
  have f2 : IntKind.wrap .i64 ((a : Int) + 1) = ((a + 1 : Nat) : Int) := by rw [wrap_in] <;> omega
  have f3 : IntKind.wrap .i64 (Int.tdiv (v : Int) 8) = ((v / 8 : Nat) : Int) := by rw [show (8 : Int) = ((8 : Nat) : Int) from rfl, tdiv_nat, wrap_in] <;> omega
  have f4 : IntKind.wrap .i64 ((L : Int) - 1) = ((L - 1 : Nat) : Int) := by rw [wrap_in] <;> omega
  have f5 : Int.tmod ((v / 8 : Nat) : Int) ((L - 1 : Nat) : Int) = (b : Int) := by rw [tmod_nat, hb]
  have f6 : IntKind.wrap .i64 (((a + 1 : Nat) : Int) + (b : Int)) = ((a + 1 + b : Nat) : Int) := by rw [wrap_in] <;> omega
  have f7 : Int.tmod ((a + 1 + b : Nat) : Int) (L : Int) = (c : Int) := by rw [tmod_nat, hc]
  have f8 : IntKind.wrap .i64 (v : Int) = v := by rw [wrap_in] <;> omega
  have z1 : ¬ (L : Int) = 0 := by omega
  have z2 : ¬ ((L - 1 : Nat) : Int) = 0 := by omega
  obtain ⟨p1, a1, a2⟩ := ro.ints.row (i := a) (by omega)
  obtain ⟨p2, a3, a4⟩ := ro.ints.row (i := c) (by omega)
  obtain ⟨v8, g3, e3, pl3, x3, k3, ov3⟩ := pl.push x2 k2 (by omega) (roots[a]'(by omega)) (roots[c]'(by omega))
  have ro3 : Ints g3 w7 roots := (Own.over' k2 ro ov3 (fun i hi hp => sep i hp hi) (by omega)).reads
  obtain ⟨x4, k4⟩ := ext_alloc0 k3
  have f9 : IntKind.wrap .i64 ((n : Int) + ((js.length + 1 : Nat) : Int)) = ((n + (js.length + 1) : Nat) : Int) := by rw [wrap_in] <;> omega
  have f10 : IntKind.wrap .i64 (((n + (js.length + 1) : Nat) : Int) - 1) = ((n + (js.length + 1) - 1 : Nat) : Int) := by rw [wrap_in] <;> omega
  have f11 : IntKind.wrap .i64 ((js.length : Int) + 1) = ((js.length + 1 : Nat) : Int) := by rw [wrap_in] <;> omega
  rw [hL] at hlen h1' h1
  have hMs := M.step (a := a) (c := c) (by omega) (by omega) hac
  rw [getD_in (by omega : a < roots.length), getD_in (by omega : c < roots.length)] at hMs
  have fin : ∀ ρ4 : Nat → Value, ρ4 6 = .int .i64 n → ρ4 7 = w7 → ρ4 8 = v8 → ρ4 9 = .int .i64 js.length → ρ4 11 = .int .i64 a → ρ4 12 = .int .i64 c → ρ4 13 = .slice (some ⟨g3.next, 0, none⟩) 0 0 → ρ4 14 = .int .i64 0 → True := fun _ _ _ _ _ _ _ _ _ => trivial
  rcases hcase with ⟨hl, p, b1, b2⟩ | ⟨hl, hv0⟩
  · simp only [↓SP, SQ, SG, SL, ↓reduceIte, undef, iop, isShift, Nat.reduceEqDiff, reduceCtorEq, Nat.reduceAdd, Nat.reduceMul, Nat.reduceSub, Nat.reduceLT, Nat.reduceLeDiff, Int.reduceLT, Int.reduceLE, Int.reduceEq, Int.reduceGT, Int.reduceGE, Int.reduceNeg, Int.reduceToNat, ne_eq, if_true, if_false, List.map_cons, List.map_nil, Nat.le_refl, SM, r18_4, r18_5, r18_6, r18_7, r18_8, r18_9, r18_10, r18_11, r18_12, r18_13,  ρ_1, ρ_6, q7, q8, q9, hlen, h1', h1, hlenx, hl, b1, b2, f1, f2, f3, f4, f5, f6, f7, f8, z1, z2, a1, a2, a3, a4, e3]
    refine wp_doneK Call.mono (rest_loop k4 x4 ro3 k3 (by omega) q7 rfl rfl rfl (IL.empty _ _ _) rfl) ?_
    rintro e ρ4 g4 ⟨rfl, kg4, xg4, r4⟩ keep4
    have k6 := (keep4 6 (of_decide_eq_true rfl)).trans ρ_6
    have k8 : ρ4 8 = v8 := keep4 8 (of_decide_eq_true rfl)
    have k9 := (keep4 9 (of_decide_eq_true rfl)).trans q9
    obtain ⟨v7, g5, e5, r5, x5, k5, ov5⟩ := r4.push xg4 kg4 (by have := restN_le roots a c roots.length; omega) ((n + (js.length + 1) - 1 : Nat) : Int)
    have hl8 := pl3.pairs.len
    rw [List.length_append, List.length_singleton] at hl8
    have x45 : g4.next ≤ g5.next := ov5.next
    have n2 := x2.next
    have n3 := xg4.next
    have n4 := ov3.next
    generalize hw13 : ρ4 13 = w13 at *
    simp only [↓SP, SQ, SG, SL, ↓reduceIte, undef, iop, isShift, Nat.reduceEqDiff, reduceCtorEq, Nat.reduceAdd, Nat.reduceMul, Nat.reduceSub, Nat.reduceLT, Nat.reduceLeDiff, Int.reduceLT, Int.reduceLE, Int.reduceEq, Int.reduceGT, Int.reduceGE, Int.reduceNeg, Int.reduceToNat, ne_eq, if_true, if_false, List.map_cons, List.map_nil, Nat.le_refl, SM, r18_5, r18_18,  k6, k8, k9, hw13, hl8, f9, f10, f11, e5]
    refine ⟨q - 1, by omega, k5, x3.trans x5, _, _, _, _, rfl, by first | rfl | assumption, by simp, ?_, hMs, by simp, r5.elder (by omega), (pl3.step x5 k3).elder n2, fun i hi hb => ?_⟩
    · have := restN_length roots hac roots.length
      rw [if_pos (by omega), if_pos (by omega)] at this
      simp only [List.length_append, List.length_singleton]; omega
    · have i1 := Own.gblk_lt k3 pl3 hi
      have i2 := Own.blk r5 hb
      omega
  · rw [show ((v : Nat) : Int) = 0 by omega] at f1 f3
    simp only [↓SP, SQ, SG, SL, ↓reduceIte, undef, iop, isShift, Nat.reduceEqDiff, reduceCtorEq, Nat.reduceAdd, Nat.reduceMul, Nat.reduceSub, Nat.reduceLT, Nat.reduceLeDiff, Int.reduceLT, Int.reduceLE, Int.reduceEq, Int.reduceGT, Int.reduceGE, Int.reduceNeg, Int.reduceToNat, ne_eq, if_true, if_false, List.map_cons, List.map_nil, Nat.le_refl, SM, r18_4, r18_5, r18_6, r18_7, r18_9, r18_10, r18_11, r18_12, r18_13,  ρ_1, ρ_6, q7, q8, q9, hlen, h1', h1, hlenx, hl, f1, f2, f3, f4, f5, f6, f7, f8, z1, z2, a1, a2, a3, a4, e3]
    refine wp_doneK Call.mono (rest_loop k4 x4 ro3 k3 (by omega) q7 rfl rfl rfl (IL.empty _ _ _) rfl) ?_
    rintro e ρ4 g4 ⟨rfl, kg4, xg4, r4⟩ keep4
    have k6 := (keep4 6 (of_decide_eq_true rfl)).trans ρ_6
    have k8 : ρ4 8 = v8 := keep4 8 (of_decide_eq_true rfl)
    have k9 := (keep4 9 (of_decide_eq_true rfl)).trans q9
    obtain ⟨v7, g5, e5, r5, x5, k5, ov5⟩ := r4.push xg4 kg4 (by have := restN_le roots a c roots.length; omega) ((n + (js.length + 1) - 1 : Nat) : Int)
    have hl8 := pl3.pairs.len
    rw [List.length_append, List.length_singleton] at hl8
    have x45 : g4.next ≤ g5.next := ov5.next
    have n2 := x2.next
    have n3 := xg4.next
    have n4 := ov3.next
    generalize hw13 : ρ4 13 = w13 at *
    simp only [↓SP, SQ, SG, SL, ↓reduceIte, undef, iop, isShift, Nat.reduceEqDiff, reduceCtorEq, Nat.reduceAdd, Nat.reduceMul, Nat.reduceSub, Nat.reduceLT, Nat.reduceLeDiff, Int.reduceLT, Int.reduceLE, Int.reduceEq, Int.reduceGT, Int.reduceGE, Int.reduceNeg, Int.reduceToNat, ne_eq, if_true, if_false, List.map_cons, List.map_nil, Nat.le_refl, SM, r18_5, r18_18,  k6, k8, k9, hw13, hl8, f9, f10, f11, e5]
    refine ⟨q - 1, by omega, k5, x3.trans x5, _, _, _, _, rfl, by first | rfl | assumption, by simp, ?_, hMs, by simp, r5.elder (by omega), (pl3.step x5 k3).elder n2, fun i hi hb => ?_⟩
    · have := restN_length roots hac roots.length
      rw [if_pos (by omega), if_pos (by omega)] at this
      simp only [List.length_append, List.length_singleton]; omega
    · have i1 := Own.gblk_lt k3 pl3 hi
      have i2 := Own.blk r5 hb
      omega

end Go.AM.K
