/- The law TrackRenamed over the abstract machine. -/
import Derived.Test.YtkhhdemhlbaboaaAMS
import Derived.Test.YtkhhdemhlbaboaaK8
import Derived.Test.YtkhhdemhlbaboaaK11
import Derived.Test.YtkhhdemhlbaboaaK12
import Derived.Test.YtkhhdemhlbaboaaTP5
set_option linter.unusedVariables false
set_option linter.unusedSimpArgs false
set_option maxRecDepth 20000
namespace Go.AM.K
open Go.AM Go.AM.Fn Go.AM.TP
attribute [local congr] ite_cond

theorem OF.step {h0 h h' : Heap} (x : Ext h h') (k : Ok h) {v : Value} {n : Nat} {f : Nat → Nat → Int} (r : OF h0 h v n f) : OF h0 h' v n f := OM.step x k r

theorem rot_code {k r s : Nat} (hk : 1 ≤ k ∧ k ≤ 4) (hr : r < k) (hs : s < k) : IntKind.wrap .i64 ((s : Int) + (r : Int)) = ((s + r : Nat) : Int) ∧ Int.tmod ((s + r : Nat) : Int) (k : Int) = ((rot k r s : Nat) : Int) := ⟨by rw [wrap_in] <;> omega, tmod_nat⟩

set_option maxHeartbeats 1000000 in
theorem turnLoop {ρ : Nat → Value} {hc h0 g : Heap} (k0 : Ok h0) (xc : Ext hc h0) (kg : Ok g) (xg : Ext h0 g) {w8 w11 : Value} {k r s : Nat} (hk : 1 ≤ k ∧ k ≤ 4) (hr : r < k) (hs : s < k) {f gg : Nat → Nat → Int} (bf : Bd k f) (bg : Bd k gg) (c8 : OF hc h0 w8 k f) (c11 : OF h0 g w11 k gg) (p0 : Part k r f gg s 0)
    (h7 : ρ 7 = .int .i64 k) (h8 : ρ 8 = w8) (h10 : ρ 10 = .int .i64 r) (h11 : ρ 11 = w11) (h13 : ρ 13 = .int .i64 s) (h14 : ρ 14 = .int .i64 0) :
    wpC (Call T1) (.loop b6_1) (fun e ρ' g' => e = .exit 2 ∧ Ok g' ∧ Ext h0 g' ∧ ∃ gg', OF h0 g' w11 k gg' ∧ Bd k gg' ∧ Part k r f gg' s k) ρ g := by
  refine wp_loopK Call.mono (fun q ρ g' => Ok g' ∧ Ext h0 g' ∧ ∃ (t : Nat) (gg' : Nat → Nat → Int), ρ 14 = .int .i64 t ∧ t + q = k ∧ OF h0 g' w11 k gg' ∧ Bd k gg' ∧ Part k r f gg' s t) ?_ (m := k) ⟨kg, xg, 0, gg, h14, by omega, c11, bg, p0⟩
  rintro q ρ1 g' ⟨kg', xg', t, gg', q14, hq, d, bd, p⟩ keep
  have ρ1_7 : ρ1 7 = .int .i64 k := by rw [keep 7 (of_decide_eq_true rfl)]; exact h7
  have ρ1_8 : ρ1 8 = w8 := by rw [keep 8 (of_decide_eq_true rfl)]; exact h8
  have ρ1_10 : ρ1 10 = .int .i64 r := by rw [keep 10 (of_decide_eq_true rfl)]; exact h10
  have ρ1_11 : ρ1 11 = w11 := by rw [keep 11 (of_decide_eq_true rfl)]; exact h11
  have ρ1_13 : ρ1 13 = .int .i64 s := by rw [keep 13 (of_decide_eq_true rfl)]; exact h13
  unfold b6_1
  by_cases ht : t < k
  rotate_left
  · have : t = k := by omega
    subst this
    simp only [↓SP, SQ, SG, SL, ↓reduceIte, undef, iop, isShift, Nat.reduceEqDiff, reduceCtorEq, Nat.reduceAdd, Nat.reduceMul, Nat.reduceSub, Nat.reduceLT, Nat.reduceLeDiff, Int.reduceLT, Int.reduceLE, Int.reduceEq, Int.reduceGT, Int.reduceGE, Int.reduceNeg, Int.reduceToNat, ne_eq, if_true, if_false, List.map_cons, List.map_nil, Nat.le_refl, SM, r6_10,  ρ1_7, q14, Nat.lt_irrefl]
    exact ⟨kg', xg', gg', d, bd, p⟩
  obtain ⟨P, U, Q, v1, v2, v3, v4, v5⟩ := d.view kg' xg'
  obtain ⟨P', U', Q', u1, u2, u3, u4, u5⟩ := (c8.step xg' k0).view kg' (xc.trans xg')
  have hws : IntKind.wrap .i64 ((t : Int) + 1) = ((t + 1 : Nat) : Int) := by rw [wrap_in] <;> omega
  obtain ⟨a1, a2⟩ := rot_code hk hr hs
  obtain ⟨a3, a4⟩ := rot_code hk hr ht
  have hz : ¬ (k : Int) = 0 := by omega
  have ls := rot_lt (r := r) (s := s) hk.1
  have lt := rot_lt (r := r) (s := t) hk.1
  obtain ⟨g5, e5, r5, x5, k5⟩ := v5 (rot k r s) (rot k r t) (f s t) ls lt
  simp only [↓SP, SQ, SG, SL, ↓reduceIte, undef, iop, isShift, Nat.reduceEqDiff, reduceCtorEq, Nat.reduceAdd, Nat.reduceMul, Nat.reduceSub, Nat.reduceLT, Nat.reduceLeDiff, Int.reduceLT, Int.reduceLE, Int.reduceEq, Int.reduceGT, Int.reduceGE, Int.reduceNeg, Int.reduceToNat, ne_eq, if_true, if_false, List.map_cons, List.map_nil, Nat.le_refl, SM, r6_10, r6_11, r6_12,  ρ1_7, ρ1_8, ρ1_10, ρ1_11, ρ1_13, q14, ht, a1, a2, a3, a4, hz, v1 _ ls, v2 _ ls, v3 _ _ ls lt, u1 s hs, u2 s hs, u3 s t hs ht, u4 s t hs ht, e5, hws]
  exact ⟨q - 1, by omega, k5, x5, t + 1, _, rfl, by omega, r5, upd_bd bd (bf s t hs ht), p.step hk hr hs ht⟩

set_option maxHeartbeats 1000000 in
theorem turnLoops {ρ : Nat → Value} {hc h0 g : Heap} (k0 : Ok h0) (xc : Ext hc h0) (kg : Ok g) (xg : Ext h0 g) {w8 w11 : Value} {k r : Nat} (hk : 1 ≤ k ∧ k ≤ 4) (hr : r < k) {f gg : Nat → Nat → Int} (bf : Bd k f) (bg : Bd k gg) (c8 : OF hc h0 w8 k f) (c11 : OF h0 g w11 k gg)
    (h7 : ρ 7 = .int .i64 k) (h8 : ρ 8 = w8) (h10 : ρ 10 = .int .i64 r) (h11 : ρ 11 = w11) (h13 : ρ 13 = .int .i64 0) :
    wpC (Call T1) (.loop b6_2) (fun e ρ' g' => e = .exit 0 ∧ Ok g' ∧ Ext h0 g' ∧ ∃ gg', OF h0 g' w11 k gg' ∧ Bd k gg' ∧ Part k r f gg' k 0) ρ g := by
  refine wp_loopK Call.mono (fun q ρ g' => Ok g' ∧ Ext h0 g' ∧ ∃ (s : Nat) (gg' : Nat → Nat → Int), ρ 13 = .int .i64 s ∧ s + q = k ∧ OF h0 g' w11 k gg' ∧ Bd k gg' ∧ Part k r f gg' s 0) ?_ (m := k) ⟨kg, xg, 0, gg, h13, by omega, c11, bg, .start⟩
  rintro q ρ1 g' ⟨kg', xg', s, gg', q13, hq, d, bd, p⟩ keep
  have ρ1_7 : ρ1 7 = .int .i64 k := by rw [keep 7 (of_decide_eq_true rfl)]; exact h7
  have ρ1_8 : ρ1 8 = w8 := by rw [keep 8 (of_decide_eq_true rfl)]; exact h8
  have ρ1_10 : ρ1 10 = .int .i64 r := by rw [keep 10 (of_decide_eq_true rfl)]; exact h10
  have ρ1_11 : ρ1 11 = w11 := by rw [keep 11 (of_decide_eq_true rfl)]; exact h11
  unfold b6_2
  by_cases hs : s < k
  rotate_left
  · have : s = k := by omega
    subst this
    simp only [↓SP, SQ, SG, SL, ↓reduceIte, undef, iop, isShift, Nat.reduceEqDiff, reduceCtorEq, Nat.reduceAdd, Nat.reduceMul, Nat.reduceSub, Nat.reduceLT, Nat.reduceLeDiff, Int.reduceLT, Int.reduceLE, Int.reduceEq, Int.reduceGT, Int.reduceGE, Int.reduceNeg, Int.reduceToNat, ne_eq, if_true, if_false, List.map_cons, List.map_nil, Nat.le_refl, SM, r6_7,  ρ1_7, q13, Nat.lt_irrefl]
    exact ⟨kg', xg', gg', d, bd, p⟩
  simp only [↓SP, SQ, SG, SL, ↓reduceIte, undef, iop, isShift, Nat.reduceEqDiff, reduceCtorEq, Nat.reduceAdd, Nat.reduceMul, Nat.reduceSub, Nat.reduceLT, Nat.reduceLeDiff, Int.reduceLT, Int.reduceLE, Int.reduceEq, Int.reduceGT, Int.reduceGE, Int.reduceNeg, Int.reduceToNat, ne_eq, if_true, if_false, List.map_cons, List.map_nil, Nat.le_refl, SM, r6_7, r6_9,  ρ1_7, q13, hs]
  refine wp_doneK Call.mono (turnLoop k0 xc kg' xg' hk hr hs bf bd c8 d p ρ1_7 ρ1_8 ρ1_10 ρ1_11 q13 rfl) ?_
  rintro e ρ4 g4 ⟨rfl, kg4, xg4, gg4, d4, b4, p4⟩ keep4
  have k13 := (keep4 13 (of_decide_eq_true rfl)).trans q13
  have hws : IntKind.wrap .i64 ((s : Int) + 1) = ((s + 1 : Nat) : Int) := by rw [wrap_in] <;> omega
  simp only [↓SP, SQ, SG, SL, ↓reduceIte, undef, iop, isShift, Nat.reduceEqDiff, reduceCtorEq, Nat.reduceAdd, Nat.reduceMul, Nat.reduceSub, Nat.reduceLT, Nat.reduceLeDiff, Int.reduceLT, Int.reduceLE, Int.reduceEq, Int.reduceGT, Int.reduceGE, Int.reduceNeg, Int.reduceToNat, ne_eq, if_true, if_false, List.map_cons, List.map_nil, Nat.le_refl, SM, r6_8,  k13, hws]
  exact ⟨q - 1, by omega, kg4, xg4, s + 1, gg4, rfl, by omega, d4, b4, p4.next⟩

/-- Turned states. -/
def turned (k r : Nat) (l : List Int) : List Int := l.map fun s => ((rot k r s.toNat : Nat) : Int)

set_option maxHeartbeats 1000000 in
theorem stateLoop {ρ : Nat → Value} {h0 g : Heap} (k0 : Ok h0) (kg : Ok g) (xg : Ext h0 g) {w9 w12 : Value} {k r n : Nat} (hk : 1 ≤ k ∧ k ≤ 4) (hr : r < k) (hn : n ≤ 8) {l : List Int} (hl : statesB n k l = true) (c9 : Ints h0 w9 l) (c12 : IL h0 g w12 [])
    (h5 : ρ 5 = .int .i64 n) (h7 : ρ 7 = .int .i64 k) (h9 : ρ 9 = w9) (h10 : ρ 10 = .int .i64 r) (h12 : ρ 12 = w12) (h15 : ρ 15 = .int .i64 0) :
    wpC (Call T1) (.loop b6_3) (fun e ρ' g' => e = .exit 4 ∧ Ok g' ∧ Ext h0 g' ∧ IL h0 g' (ρ' 12) (turned k r l)) ρ g := by
  have hs : (l.length : Int) = n ∧ ∀ s ∈ l, 0 ≤ s ∧ s < k := by simpa [statesB, List.all_eq_true] using hl
  refine wp_loopK Call.mono (fun q ρ g' => Ok g' ∧ Ext h0 g' ∧ ∃ (i : Nat) (u : Value), ρ 12 = u ∧ ρ 15 = .int .i64 i ∧ i + q = n ∧ IL h0 g' u (turned k r (l.take i))) ?_ (m := n) ⟨kg, xg, 0, w12, h12, h15, by omega, c12⟩
  rintro q ρ1 g' ⟨kg', xg', i, u, q12, q15, hq, r1⟩ keep
  have ρ1_5 : ρ1 5 = .int .i64 n := by rw [keep 5 (of_decide_eq_true rfl)]; exact h5
  have ρ1_7 : ρ1 7 = .int .i64 k := by rw [keep 7 (of_decide_eq_true rfl)]; exact h7
  have ρ1_9 : ρ1 9 = w9 := by rw [keep 9 (of_decide_eq_true rfl)]; exact h9
  have ρ1_10 : ρ1 10 = .int .i64 r := by rw [keep 10 (of_decide_eq_true rfl)]; exact h10
  unfold b6_3
  by_cases hi : i < n
  rotate_left
  · have : i = n := by omega
    subst this
    rw [List.take_of_length_le (by omega)] at r1
    simp only [↓SP, SQ, SG, SL, ↓reduceIte, undef, iop, isShift, Nat.reduceEqDiff, reduceCtorEq, Nat.reduceAdd, Nat.reduceMul, Nat.reduceSub, Nat.reduceLT, Nat.reduceLeDiff, Int.reduceLT, Int.reduceLE, Int.reduceEq, Int.reduceGT, Int.reduceGE, Int.reduceNeg, Int.reduceToNat, ne_eq, if_true, if_false, List.map_cons, List.map_nil, Nat.le_refl, SM, r6_14,  ρ1_5, q12, q15, Nat.lt_irrefl]
    exact ⟨kg', xg', r1⟩
  have hil : i < l.length := by omega
  obtain ⟨p, e1, e2⟩ := (c9.ext xg' k0).row hil
  have hb := hs.2 _ (List.getElem_mem hil)
  obtain ⟨y, hy⟩ : ∃ y : Nat, l[i] = y := ⟨l[i].toNat, by omega⟩
  rw [hy] at e2
  have hyk : y < k := by omega
  obtain ⟨a1, a2⟩ := rot_code hk hr hyk
  have hz : ¬ (k : Int) = 0 := by omega
  have hws : IntKind.wrap .i64 ((i : Int) + 1) = ((i + 1 : Nat) : Int) := by rw [wrap_in] <;> omega
  obtain ⟨v5, g5, e5, r5, x5, k5, _⟩ := r1.push xg' kg' (by simp [turned]; omega) ((rot k r y : Nat) : Int)
  have hnx : turned k r (l.take (i + 1)) = turned k r (l.take i) ++ [((rot k r y : Nat) : Int)] := by
    rw [List.take_succ_eq_append_getElem hil, turned, List.map_append]
    simp [turned, hy]
  simp only [↓SP, SQ, SG, SL, ↓reduceIte, undef, iop, isShift, Nat.reduceEqDiff, reduceCtorEq, Nat.reduceAdd, Nat.reduceMul, Nat.reduceSub, Nat.reduceLT, Nat.reduceLeDiff, Int.reduceLT, Int.reduceLE, Int.reduceEq, Int.reduceGT, Int.reduceGE, Int.reduceNeg, Int.reduceToNat, ne_eq, if_true, if_false, List.map_cons, List.map_nil, Nat.le_refl, SM, r6_14, r6_15, r6_16,  ρ1_5, ρ1_7, ρ1_9, ρ1_10, q12, q15, hi, e1, e2, a1, a2, hz, e5, hws]
  exact ⟨q - 1, by omega, k5, x5, i + 1, _, rfl, rfl, by omega, by rw [hnx]; exact r5.elder xg'.next⟩

theorem turned_states {k r n : Nat} (hk : 1 ≤ k ∧ k ≤ 4) {l : List Int} (hl : statesB n k l = true) : statesB n k (turned k r l) = true ∧ ∀ i, i < n → (turned k r l).getD i 0 = ((rot k r (l.getD i 0).toNat : Nat) : Int) := by
  have hs : (l.length : Int) = n ∧ ∀ s ∈ l, 0 ≤ s ∧ s < k := by simpa [statesB, List.all_eq_true] using hl
  refine ⟨?_, fun i hi => ?_⟩
  · simp only [statesB, turned, List.length_map, Bool.and_eq_true, decide_eq_true_eq, List.all_eq_true]
    refine ⟨hs.1, fun x hx => ?_⟩
    obtain ⟨s, _, rfl⟩ := List.mem_map.1 hx
    have := rot_lt (r := r) (s := s.toNat) hk.1
    omega
  · have : i < l.length := by omega
    simp [turned, List.getD, this]

theorem why_ok {n k : Nat} {js : List (Int × Int)} {costs : List (List Int)} {l : List Int} (ht : treeB n js = true) (hc : costsB costs = true) (hk : costs.length = k) (hl : statesB n k l = true) : whyB n js costs l = 0 ∧ leastR n js costs l = (answer k costs l js).1 ∧ waysR n js costs l = (answer k costs l js).2 := by
  have e : whyB n js costs l = 0 := by rw [whyB, if_pos ⟨ht, hc⟩, hk, if_pos hl]
  exact ⟨e, by rw [leastR, if_pos e, hk], by rw [waysR, if_pos e, hk]⟩

set_option maxHeartbeats 4000000 in
theorem renamed_law {h : Heap} (kk : Ok h) {N K B : Int} (hN : 0 ≤ N ∧ N < 256) (hK : 0 ≤ K ∧ K < 256) (hB : 0 ≤ B ∧ B < 256) {j c l : Value} {js cs ls : List Int} (hj : Bytes h j js) (hc : Bytes h c cs) (hl : Bytes h l ls) (fj : Fit j) (fc : Fit c) (fl : Fit l) :
    Call T1 6 [.agg #[.int .u8 N, .int .u8 K, j, c, l], .int .u8 B] h (fun v _ => v = .bool true) := by
  refine Call.of (fn := f6) rfl (by simp [f6]) ?_
  unfold f6
  have cj := fj.cell
  have cc := fc.cell
  have cl := fl.cell
  obtain ⟨K', rfl⟩ : ∃ m : Nat, K = m := ⟨K.toNat, by omega⟩
  obtain ⟨B', rfl⟩ : ∃ m : Nat, B = m := ⟨B.toNat, by omega⟩
  obtain ⟨k, hk⟩ : ∃ k : Nat, K' % 4 + 1 = k := ⟨_, rfl⟩
  have hk4 : 1 ≤ k ∧ k ≤ 4 := by omega
  obtain ⟨r, hr⟩ : ∃ r : Nat, B' % k = r := ⟨_, rfl⟩
  have hrk : r < k := by rw [← hr]; exact Nat.mod_lt _ (by omega)
  have u1 : IntKind.wrap .i64 (K' : Int) = K' := by rw [wrap_in] <;> omega
  have u2 : Int.tmod (K' : Int) 4 = ((K' % 4 : Nat) : Int) := tmod_nat (b := 4)
  have u3 : IntKind.wrap .i64 (((K' % 4 : Nat) : Int) + 1) = (k : Int) := by rw [wrap_in] <;> omega
  have u4 : IntKind.wrap .i64 (B' : Int) = B' := by rw [wrap_in] <;> omega
  have u5 : Int.tmod (B' : Int) (k : Int) = (r : Int) := by rw [tmod_nat, hr]
  have hz : ¬ (k : Int) = 0 := by omega
  obtain ⟨O, hO⟩ : ∃ O : List Value, O = [.int .u8 N, .int .u8 K', j, c, l] := ⟨_, rfl⟩
  have xa : Ext h (h.alloc { cells := O, esz := 0 }) := .alloc _ _
  have ka : Ok (h.alloc { cells := O, esz := 0 }) := kk.alloc _
  have ga : (h.alloc { cells := O, esz := 0 }).get h.next = some { cells := O, esz := 0 } := by simp [Heap.alloc]
  have ba : (h.alloc { cells := O, esz := 0 }).base ≤ h.next := kk.le
  simp only [↓SP, SQ, SG, SL, ↓reduceIte, undef, iop, isShift, Nat.reduceEqDiff, reduceCtorEq, Nat.reduceAdd, Nat.reduceMul, Nat.reduceSub, Nat.reduceLT, Nat.reduceLeDiff, Int.reduceLT, Int.reduceLE, Int.reduceEq, Int.reduceGT, Int.reduceGE, Int.reduceNeg, Int.reduceToNat, ne_eq, if_true, if_false, List.map_cons, List.map_nil, r6_0]
  rw [← hO]
  generalize (h.alloc { cells := O, esz := 0 }) = g at *
  have gat : ∀ {g' : Heap}, Ext g g' → g'.get h.next = some { cells := O, esz := 0 } ∧ g'.base ≤ h.next := fun x => ⟨by rw [x.get _ (ka.lt ga)]; exact ga, by rw [x.base]; exact ba⟩
  subst hO
  simp only [↓SP, SQ, SG, SL, ↓reduceIte, undef, iop, isShift, Nat.reduceEqDiff, reduceCtorEq, Nat.reduceAdd, Nat.reduceMul, Nat.reduceSub, Nat.reduceLT, Nat.reduceLeDiff, Int.reduceLT, Int.reduceLE, Int.reduceEq, Int.reduceGT, Int.reduceGE, Int.reduceNeg, Int.reduceToNat, ne_eq, if_true, if_false, List.map_cons, List.map_nil, Nat.le_refl, SM, r6_1,  ga, ba]
  refine (made_spec ka hN (hj.ext xa kk)).imp ?_
  rintro v g1 ⟨n, w6, J, rfl, n2, n8, ht, pl, m1⟩
  obtain ⟨ga1, ba1⟩ := gat m1.1
  simp only [↓SP, SQ, SG, SL, ↓reduceIte, undef, iop, isShift, Nat.reduceEqDiff, reduceCtorEq, Nat.reduceAdd, Nat.reduceMul, Nat.reduceSub, Nat.reduceLT, Nat.reduceLeDiff, Int.reduceLT, Int.reduceLE, Int.reduceEq, Int.reduceGT, Int.reduceGE, Int.reduceNeg, Int.reduceToNat, ne_eq, if_true, if_false, List.map_cons, List.map_nil, Nat.le_refl, SM, r6_1, r6_2, r6_3,  List.getElem?_toArray, ga1, ba1, u1, u2, u3]
  refine (lawCosts_spec m1.2 hk4 ((hc.ext xa kk).ext m1.1 ka) false).imp ?_
  rintro w8 g2 ⟨f, of8, bf, _, m2⟩
  have m12 := m1.trans m2
  obtain ⟨ga2, ba2⟩ := gat m12.1
  have hrd : rdA g1 (.pointer (some ⟨h.next, 4, none⟩)) 1 = rdA g2 (.pointer (some ⟨h.next, 4, none⟩)) 1 := (rdA_congr m2.1.base (by rw [ga1, ga2])).symm
  simp only [↓SP, SQ, SG, SL, ↓reduceIte, undef, iop, isShift, Nat.reduceEqDiff, reduceCtorEq, Nat.reduceAdd, Nat.reduceMul, Nat.reduceSub, Nat.reduceLT, Nat.reduceLeDiff, Int.reduceLT, Int.reduceLE, Int.reduceEq, Int.reduceGT, Int.reduceGE, Int.reduceNeg, Int.reduceToNat, ne_eq, if_true, if_false, List.map_cons, List.map_nil, Nat.le_refl, SM, ga1, ba1, ga2, ba2, hrd]
  refine (lawStates_spec m2.2 (by omega) (by omega) ((hl.ext xa kk).ext m12.1 ka)).imp ?_
  rintro w9 g3 ⟨L, il9, sl, m3⟩
  have m13 := m12.trans m3
  simp only [↓SP, SQ, SG, SL, ↓reduceIte, undef, iop, isShift, Nat.reduceEqDiff, reduceCtorEq, Nat.reduceAdd, Nat.reduceMul, Nat.reduceSub, Nat.reduceLT, Nat.reduceLeDiff, Int.reduceLT, Int.reduceLE, Int.reduceEq, Int.reduceGT, Int.reduceGE, Int.reduceNeg, Int.reduceToNat, ne_eq, if_true, if_false, List.map_cons, List.map_nil, Nat.le_refl, SM, r6_4, r6_5,  u4, u5, hz]
  refine (lawCosts_spec m3.2 hk4 Bytes.nil false).imp ?_
  rintro w11 g4 ⟨gg, of11, bg, _, m4⟩
  obtain ⟨x5, k5⟩ := ext_alloc0 m4.2
  have e12 := IL.empty g4 (g4.alloc { cells := [], esz := 0 }) g4.next
  simp only [↓SP, SQ, SG, SL, ↓reduceIte, undef, iop, isShift, Nat.reduceEqDiff, reduceCtorEq, Nat.reduceAdd, Nat.reduceMul, Nat.reduceSub, Nat.reduceLT, Nat.reduceLeDiff, Int.reduceLT, Int.reduceLE, Int.reduceEq, Int.reduceGT, Int.reduceGE, Int.reduceNeg, Int.reduceToNat, ne_eq, if_true, if_false, List.map_cons, List.map_nil, Nat.le_refl, SM, r6_6]
  generalize g4.alloc { cells := [], esz := 0 } = g5 at *
  refine wp_doneK Call.mono (turnLoops m3.2 (m2.1.trans m3.1) k5 (m4.1.trans x5) hk4 hrk bf bg (of8.step m3.1 m2.2) (of11.step x5 m4.2) rfl rfl rfl rfl rfl) ?_
  rintro e ρ1 g6 ⟨rfl, k6, x6, gg', of6, bg', p6⟩ keep
  have ρ1_5 : ρ1 5 = .int .i64 n := by rw [keep 5 (of_decide_eq_true rfl)]; first | rfl | assumption
  have ρ1_6 : ρ1 6 = w6 := by rw [keep 6 (of_decide_eq_true rfl)]; first | rfl | assumption
  have ρ1_7 : ρ1 7 = .int .i64 k := by rw [keep 7 (of_decide_eq_true rfl)]; first | rfl | assumption
  have ρ1_8 : ρ1 8 = w8 := by rw [keep 8 (of_decide_eq_true rfl)]; first | rfl | assumption
  have ρ1_9 : ρ1 9 = w9 := by rw [keep 9 (of_decide_eq_true rfl)]; first | rfl | assumption
  have ρ1_10 : ρ1 10 = .int .i64 r := by rw [keep 10 (of_decide_eq_true rfl)]; first | rfl | assumption
  have ρ1_11 : ρ1 11 = w11 := by rw [keep 11 (of_decide_eq_true rfl)]; first | rfl | assumption
  have ρ1_12 : ρ1 12 = .slice (some ⟨g4.next, 0, none⟩) 0 0 := by rw [keep 12 (of_decide_eq_true rfl)]; first | rfl | assumption
  clear keep
  simp only [↓SP, SQ, SG, SL, ↓reduceIte, undef, iop, isShift, Nat.reduceEqDiff, reduceCtorEq, Nat.reduceAdd, Nat.reduceMul, Nat.reduceSub, Nat.reduceLT, Nat.reduceLeDiff, Int.reduceLT, Int.reduceLE, Int.reduceEq, Int.reduceGT, Int.reduceGE, Int.reduceNeg, Int.reduceToNat, ne_eq, if_true, if_false, List.map_cons, List.map_nil, Nat.le_refl, SM, r6_13]
  refine wp_doneK Call.mono (stateLoop k6 k6 (.refl _) hk4 hrk n8 sl (il9.ints.ext x6 m3.2) (IL.empty _ _ _) ρ1_5 ρ1_7 ρ1_9 ρ1_10 ρ1_12 rfl) ?_
  rintro e ρ2 g7 ⟨rfl, k7, x7, il7⟩ keep2
  have ρ2_5 := (keep2 5 (of_decide_eq_true rfl)).trans ρ1_5
  have ρ2_6 := (keep2 6 (of_decide_eq_true rfl)).trans ρ1_6
  have ρ2_8 := (keep2 8 (of_decide_eq_true rfl)).trans ρ1_8
  have ρ2_9 := (keep2 9 (of_decide_eq_true rfl)).trans ρ1_9
  have ρ2_11 := (keep2 11 (of_decide_eq_true rfl)).trans ρ1_11
  clear keep2
  generalize hw12 : ρ2 12 = w12 at *
  have x37 := x6.trans x7
  have M7 : More g3 g7 := ⟨x37, k7⟩
  have x17 := (m2.1.trans m3.1).trans x37
  have J7 := pl.pairs.ext x17 m1.2
  have c8 := (of8.mat).ext (m3.1.trans x37) m2.2
  have c11 := (of6.step x7 k6).mat
  have l9 := il9.ints.ext x37 m3.2
  have l12 := il7.ints
  have f6 : Fit w6 := Own.fit pl
  have f8 := of8.fit
  have f11 := of6.fit
  have f9 := il9.fit
  have f12 := il7.fit
  have ts := turned_states (r := r) hk4 sl
  have W1 := why_ok ht (costsB_of hk4 bf) (matF_length k f) sl
  have W2 := why_ok ht (costsB_of hk4 bg') (matF_length k gg') ts.1
  have ans := answer_rot n8 hk4 hrk bf bg' (fun s t hs ht => p6 s t hs ht (.inl hs)) ht sl ts.1 ts.2
  simp only [↓SP, SQ, SG, SL, ↓reduceIte, undef, iop, isShift, Nat.reduceEqDiff, reduceCtorEq, Nat.reduceAdd, Nat.reduceMul, Nat.reduceSub, Nat.reduceLT, Nat.reduceLeDiff, Int.reduceLT, Int.reduceLE, Int.reduceEq, Int.reduceGT, Int.reduceGE, Int.reduceNeg, Int.reduceToNat, ne_eq, if_true, if_false, List.map_cons, List.map_nil, Nat.le_refl, SM, r6_17,  ρ2_5, ρ2_6, ρ2_8, ρ2_9]
  refine (least_spec k7 J7 c8 f8 f6 f9 l9).imp ?_
  rintro v g8 ⟨rfl, m8⟩
  simp only [↓SP, SQ, SG, SL, ↓reduceIte, undef, iop, isShift, Nat.reduceEqDiff, reduceCtorEq, Nat.reduceAdd, Nat.reduceMul, Nat.reduceSub, Nat.reduceLT, Nat.reduceLeDiff, Int.reduceLT, Int.reduceLE, Int.reduceEq, Int.reduceGT, Int.reduceGE, Int.reduceNeg, Int.reduceToNat, ne_eq, if_true, if_false, List.map_cons, List.map_nil, Nat.le_refl, SM, r6_18,  ρ2_5, ρ2_6, ρ2_8, ρ2_9, ρ2_11, hw12, List.getElem?_toArray]
  refine (least_spec m8.2 (J7.ext m8.1 k7) (c11.ext m8.1 k7) f11 f6 f12 (l12.ext m8.1 k7)).imp ?_
  rintro v g9 ⟨rfl, m9⟩
  have m79 := m8.trans m9
  simp only [↓SP, SQ, SG, SL, ↓reduceIte, undef, iop, isShift, Nat.reduceEqDiff, reduceCtorEq, Nat.reduceAdd, Nat.reduceMul, Nat.reduceSub, Nat.reduceLT, Nat.reduceLeDiff, Int.reduceLT, Int.reduceLE, Int.reduceEq, Int.reduceGT, Int.reduceGE, Int.reduceNeg, Int.reduceToNat, ne_eq, if_true, if_false, List.map_cons, List.map_nil, Nat.le_refl, SM, r6_19,  ρ2_5, ρ2_6, ρ2_8, ρ2_9, ρ2_11, hw12, List.getElem?_toArray]
  refine (ways_spec m9.2 (J7.ext m79.1 k7) (c8.ext m79.1 k7) f8 f6 f9 (l9.ext m79.1 k7)).imp ?_
  rintro v g10 ⟨rfl, m10⟩
  have m710 := m79.trans m10
  simp only [↓SP, SQ, SG, SL, ↓reduceIte, undef, iop, isShift, Nat.reduceEqDiff, reduceCtorEq, Nat.reduceAdd, Nat.reduceMul, Nat.reduceSub, Nat.reduceLT, Nat.reduceLeDiff, Int.reduceLT, Int.reduceLE, Int.reduceEq, Int.reduceGT, Int.reduceGE, Int.reduceNeg, Int.reduceToNat, ne_eq, if_true, if_false, List.map_cons, List.map_nil, Nat.le_refl, SM, r6_20,  ρ2_5, ρ2_6, ρ2_8, ρ2_9, ρ2_11, hw12, List.getElem?_toArray]
  refine (ways_spec m10.2 (J7.ext m710.1 k7) (c11.ext m710.1 k7) f11 f6 f12 (l12.ext m710.1 k7)).imp ?_
  rintro v g11 ⟨rfl, m11⟩
  rw [W1.1, W2.1, W1.2.1, W1.2.2, W2.2.1, W2.2.2, ← ans]
  simp only [↓SP, SQ, SG, SL, ↓reduceIte, undef, iop, isShift, Nat.reduceEqDiff, reduceCtorEq, Nat.reduceAdd, Nat.reduceMul, Nat.reduceSub, Nat.reduceLT, Nat.reduceLeDiff, Int.reduceLT, Int.reduceLE, Int.reduceEq, Int.reduceGT, Int.reduceGE, Int.reduceNeg, Int.reduceToNat, ne_eq, if_true, if_false, List.map_cons, List.map_nil, Nat.le_refl, SM, r6_21,  List.getElem?_toArray]
  refine lives_call ?_
  simp only [↓SP, SQ, SG, SL, ↓reduceIte, undef, iop, isShift, Nat.reduceEqDiff, reduceCtorEq, Nat.reduceAdd, Nat.reduceMul, Nat.reduceSub, Nat.reduceLT, Nat.reduceLeDiff, Int.reduceLT, Int.reduceLE, Int.reduceEq, Int.reduceGT, Int.reduceGE, Int.reduceNeg, Int.reduceToNat, ne_eq, if_true, if_false, List.map_cons, List.map_nil]

end Go.AM.K
