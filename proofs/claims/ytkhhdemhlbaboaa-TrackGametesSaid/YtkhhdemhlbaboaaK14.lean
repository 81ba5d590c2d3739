/- The law TrackRoot over the abstract machine. -/
import Derived.Test.YtkhhdemhlbaboaaAMS
import Derived.Test.YtkhhdemhlbaboaaK13
import Derived.Test.YtkhhdemhlbaboaaTP8
set_option linter.unusedVariables false
set_option linter.unusedSimpArgs false
set_option maxRecDepth 20000
namespace Go.AM.K
open Go.AM Go.AM.Fn Go.AM.TP
attribute [local congr] ite_cond

theorem name_spec {h : Heap} {z : Nat} {I x : Int} (hz : loadA h 1 false (.pointer (some ⟨z, 0, none⟩)) = some (.int .i64 I)) (hI : 0 ≤ I ∧ I ≤ 1000) (hx : 0 ≤ x ∧ x ≤ 1000) :
    Call T1 25 [.int .i64 x, .pointer (some ⟨z, 0, none⟩)] h (fun v h' => v = .int .i64 (nm I x) ∧ h' = h) := by
  refine Call.of (fn := f25) rfl (by simp [f25]) ?_
  unfold f25
  have hw : IntKind.wrap .i64 (x - 1) = x - 1 := by rw [wrap_in] <;> omega
  by_cases hd : I < x
  · have e : nm I x = x - 1 := by unfold nm; rw [if_pos hd]
    simp only [↓SP, SQ, SG, SL, ↓reduceIte, undef, iop, isShift, Nat.reduceEqDiff, reduceCtorEq, Nat.reduceAdd, Nat.reduceMul, Nat.reduceSub, Nat.reduceLT, Nat.reduceLeDiff, Int.reduceLT, Int.reduceLE, Int.reduceEq, Int.reduceGT, Int.reduceGE, Int.reduceNeg, Int.reduceToNat, ne_eq, if_true, if_false, List.map_cons, List.map_nil, hz, r25_0, r25_1, r25_2, r25_3, hd, hw, e]
  · have e : nm I x = x := by unfold nm; rw [if_neg hd]
    simp only [↓SP, SQ, SG, SL, ↓reduceIte, undef, iop, isShift, Nat.reduceEqDiff, reduceCtorEq, Nat.reduceAdd, Nat.reduceMul, Nat.reduceSub, Nat.reduceLT, Nat.reduceLeDiff, Int.reduceLT, Int.reduceLE, Int.reduceEq, Int.reduceGT, Int.reduceGE, Int.reduceNeg, Int.reduceToNat, ne_eq, if_true, if_false, List.map_cons, List.map_nil, hz, r25_0, r25_1, r25_2, r25_3, hd, e]

theorem pair_row {h : Heap} {w : Value} {J : List (Int × Int)} (hj : Pairs h w J) {i : Nat} (hi : i < J.length) :
    ∃ b o, iaddrA 2 w (.int .i64 i) = some (.pointer (some ⟨b, o, none⟩)) ∧ loadA h 2 true (.pointer (some ⟨b, o, none⟩)) = some (.agg #[.int .i64 (J.getD i (0, 0)).1, .int .i64 (J.getD i (0, 0)).2]) ∧
      loadA h 1 false (.pointer (some ⟨b, o, none⟩)) = some (.int .i64 (J.getD i (0, 0)).1) ∧ loadA h 1 false (.pointer (some ⟨b, o + 1, none⟩)) = some (.int .i64 (J.getD i (0, 0)).2) := by
  obtain ⟨p, i1, i2, i3⟩ := Reads.elemN (enc := pairCells) (sz := 2) (fun _ => rfl) hj hi
  obtain ⟨b, o, rfl⟩ := iaddr_ptr i1
  rw [← getD_in hi (0, 0)] at i2 i3
  have l1 := rd_field i3 (j := 0) (by omega)
  have l2 := rd_field i3 (j := 1) (by omega)
  simp only [pairCells, List.getD_cons_zero, List.getD_cons_succ, Nat.add_zero] at l1 l2
  exact ⟨b, o, i1, i2, l1, l2⟩

set_option maxHeartbeats 2000000 in
theorem movedLoop {ρ : Nat → Value} {h0 g : Heap} (k0 : Ok h0) (kg : Ok g) (xg : Ext h0 g) {w4 w13 : Value} {J : List (Int × Int)} {n m last z : Nat} {I : Int} (hJ : Pairs h0 w4 J) (hB : ∀ x ∈ flat J, 0 ≤ x ∧ x ≤ 1000) (hlast : last ≤ J.length) (hJl : J.length ≤ 100) (hI : I = ((n + m : Nat) : Int)) (hI2 : n + m ≤ 1000)
    (hz : loadA h0 1 false (.pointer (some ⟨z, 0, none⟩)) = some (.int .i64 I)) (p13 : PL h0 g w13 [])
    (h3 : ρ 3 = .int .i64 n) (h4 : ρ 4 = w4) (h8 : ρ 8 = .int .i64 last) (h10 : ρ 10 = .pointer (some ⟨z, 0, none⟩)) (h13 : ρ 13 = w13) (h14 : ρ 14 = .func (.func 25) #[] #[.pointer (some ⟨z, 0, none⟩)]) (h15 : ρ 15 = .int .i64 0) (hzb : h0.base ≤ z) (hz0 : h0.get z = some { cells := [.int .i64 I], esz := 0 }) :
    wpC (Call T1) (.loop b5_1) (fun e ρ' g' => e = .exit 0 ∧ Ok g' ∧ Ext h0 g' ∧ PL h0 g' (ρ' 13) (mvN J I m last)) ρ g := by
  refine wp_loopK Call.mono (fun q ρ g' => Ok g' ∧ Ext h0 g' ∧ ∃ (i : Nat) (u : Value), ρ 13 = u ∧ ρ 15 = .int .i64 i ∧ i + q = last ∧ PL h0 g' u (mvN J I m i)) ?_ (m := last) ⟨kg, xg, 0, w13, h13, h15, by omega, p13⟩
  rintro q ρ1 g' ⟨kg', xg', i, u, q13, q15, hq, r⟩ keep
  have ρ1_3 : ρ1 3 = .int .i64 n := by rw [keep 3 (of_decide_eq_true rfl)]; exact h3
  have ρ1_4 : ρ1 4 = w4 := by rw [keep 4 (of_decide_eq_true rfl)]; exact h4
  have ρ1_8 : ρ1 8 = .int .i64 last := by rw [keep 8 (of_decide_eq_true rfl)]; exact h8
  have ρ1_10 : ρ1 10 = .pointer (some ⟨z, 0, none⟩) := by rw [keep 10 (of_decide_eq_true rfl)]; exact h10
  have ρ1_14 : ρ1 14 = .func (.func 25) #[] #[.pointer (some ⟨z, 0, none⟩)] := by rw [keep 14 (of_decide_eq_true rfl)]; exact h14
  unfold b5_1
  by_cases hi : i < last
  rotate_left
  · have : i = last := by omega
    subst this
    simp only [↓SP, SQ, SG, SL, ↓reduceIte, undef, iop, isShift, Nat.reduceEqDiff, reduceCtorEq, Nat.reduceAdd, Nat.reduceMul, Nat.reduceSub, Nat.reduceLT, Nat.reduceLeDiff, Int.reduceLT, Int.reduceLE, Int.reduceEq, Int.reduceGT, Int.reduceGE, Int.reduceNeg, Int.reduceToNat, ne_eq, if_true, if_false, List.map_cons, List.map_nil, Nat.le_refl, SM, r5_14,  ρ1_8, q13, q15, Nat.lt_irrefl]
    exact ⟨kg', xg', r⟩
  have hws : IntKind.wrap .i64 ((i : Int) + 1) = ((i + 1 : Nat) : Int) := by rw [wrap_in] <;> omega
  have hwm : IntKind.wrap .i64 (I - (n : Int)) = (m : Int) := by rw [hI, wrap_in] <;> omega
  have gz : g'.get z = some { cells := [.int .i64 I], esz := 0 } := by rw [xg'.get z (k0.lt hz0)]; exact hz0
  have bz : g'.base ≤ z := by rw [xg'.base]; exact hzb
  have lz : loadA g' 1 false (.pointer (some ⟨z, 0, none⟩)) = some (.int .i64 I) := by rw [load1 bz, gz]; rfl
  by_cases he : i = m
  · subst he
    have hn : mvN J I i (i + 1) = mvN J I i i := by rw [mvN, if_pos rfl]
    simp only [↓SP, SQ, SG, SL, ↓reduceIte, undef, iop, isShift, Nat.reduceEqDiff, reduceCtorEq, Nat.reduceAdd, Nat.reduceMul, Nat.reduceSub, Nat.reduceLT, Nat.reduceLeDiff, Int.reduceLT, Int.reduceLE, Int.reduceEq, Int.reduceGT, Int.reduceGE, Int.reduceNeg, Int.reduceToNat, ne_eq, if_true, if_false, List.map_cons, List.map_nil, lz, hwm, r5_14, r5_15, r5_16,  ρ1_3, ρ1_8, ρ1_10, q13, q15, hi, hws]
    exact ⟨q - 1, by omega, kg', xg', i + 1, _, rfl, rfl, by omega, by rw [hn]; exact r⟩
  have he' : ¬ (i : Int) = (m : Int) := by omega
  have hil : i < J.length := by omega
  obtain ⟨b, o, i1, _, l1, l2⟩ := pair_row (hJ.ext xg' k0) hil
  have hmem : J.getD i (0, 0) ∈ J := by rw [getD_in hil]; exact List.getElem_mem hil
  have b1 := hB (J.getD i (0, 0)).1 (by unfold flat; exact List.mem_flatMap.2 ⟨_, hmem, by simp⟩)
  have b2 := hB (J.getD i (0, 0)).2 (by unfold flat; exact List.mem_flatMap.2 ⟨_, hmem, by simp⟩)
  have hn : mvN J I m (i + 1) = mvN J I m i ++ [(nm I (J.getD i (0, 0)).1, nm I (J.getD i (0, 0)).2)] := by rw [mvN, if_neg he]; rfl
  have hml := mvN_length J I m i
  obtain ⟨v5, g5, e5, r5, x5, k5, _⟩ := r.push xg' kg' (by omega) (nm I (J.getD i (0, 0)).1) (nm I (J.getD i (0, 0)).2)
  simp only [↓SP, SQ, SG, SL, ↓reduceIte, undef, iop, isShift, Nat.reduceEqDiff, reduceCtorEq, Nat.reduceAdd, Nat.reduceMul, Nat.reduceSub, Nat.reduceLT, Nat.reduceLeDiff, Int.reduceLT, Int.reduceLE, Int.reduceEq, Int.reduceGT, Int.reduceGE, Int.reduceNeg, Int.reduceToNat, ne_eq, if_true, if_false, List.map_cons, List.map_nil, lz, hwm, r5_14, r5_16, r5_17,  ρ1_3, ρ1_4, ρ1_8, ρ1_10, ρ1_14, q13, q15, hi, he', i1, l1, l2]
  refine (name_spec lz (by omega) b1).imp ?_
  rintro v h' ⟨rfl, rfl⟩
  simp only [↓SP, SQ, SG, SL, ↓reduceIte, undef, iop, isShift, Nat.reduceEqDiff, reduceCtorEq, Nat.reduceAdd, Nat.reduceMul, Nat.reduceSub, Nat.reduceLT, Nat.reduceLeDiff, Int.reduceLT, Int.reduceLE, Int.reduceEq, Int.reduceGT, Int.reduceGE, Int.reduceNeg, Int.reduceToNat, ne_eq, if_true, if_false, List.map_cons, List.map_nil]
  refine (name_spec lz (by omega) b2).imp ?_
  rintro v h' ⟨rfl, rfl⟩
  simp only [↓SP, SQ, SG, SL, ↓reduceIte, undef, iop, isShift, Nat.reduceEqDiff, reduceCtorEq, Nat.reduceAdd, Nat.reduceMul, Nat.reduceSub, Nat.reduceLT, Nat.reduceLeDiff, Int.reduceLT, Int.reduceLE, Int.reduceEq, Int.reduceGT, Int.reduceGE, Int.reduceNeg, Int.reduceToNat, ne_eq, if_true, if_false, List.map_cons, List.map_nil, Nat.le_refl, SM, r5_15,  e5, q15, hws]
  exact ⟨q - 1, by omega, k5, x5, i + 1, _, rfl, rfl, by omega, by rw [hn]; exact r5.elder xg'.next⟩

theorem made_four {a b : Value} : made [a, b] 4 = [a, b, a, b] := by simp [made, List.range_succ]
theorem PL.pushTwo {h0 g : Heap} (x0 : Ext h0 g) (k : Ok g) {v : Value} {js : List (Int × Int)} (r : PL h0 g v js) (hn : js.length ≤ 1000000) (a b c d : Int) :
    ∃ v' g', appendA (g.alloc { cells := [.int .i64 a, .int .i64 b, .int .i64 c, .int .i64 d], esz := 0 }) 2 16 v (.slice (some ⟨g.next, 0, none⟩) 2 2) = some (v', g') ∧ PL g g' v' (js ++ [(a, b), (c, d)]) ∧ Ext h0 g' ∧ Ok g' := by
  have xa := Ext.alloc g { cells := [.int .i64 a, .int .i64 b, .int .i64 c, .int .i64 d], esz := 0 }
  have hrd : Reads (g.alloc { cells := [.int .i64 a, .int .i64 b, .int .i64 c, .int .i64 d], esz := 0 }) (.slice (some ⟨g.next, 0, none⟩) 2 2) 2 2 [.int .i64 a, .int .i64 b, .int .i64 c, .int .i64 d] := by
    refine ⟨rfl, by omega, by simp, fun _ => ⟨g.next, 0, none, 2, rfl, ?_⟩⟩
    have := read_own (h := g.alloc { cells := [.int .i64 a, .int .i64 b, .int .i64 c, .int .i64 d], esz := 0 }) (b := g.next) (blk := { cells := [.int .i64 a, .int .i64 b, .int .i64 c, .int .i64 d], esz := 0 }) (o := 0) (n := 2 * 2) (show (g.alloc { cells := [.int .i64 a, .int .i64 b, .int .i64 c, .int .i64 d], esz := 0 }).base ≤ g.next from k.le) (by simp [Heap.alloc]) (by simp)
    rw [this]; rfl
  obtain ⟨v', h', e, ow, k', ov⟩ := Own.append2 (bytes := 16) (k.alloc _) (Own.step xa k r) hrd rfl (by omega) (by omega) (by omega) (by omega)
  refine ⟨v', h', e, ?_, ov.ext (x0.trans xa) (fun i hi => Own.gblk r hi), k'⟩
  have := ow.elder (h0 := g) (by simp [Heap.alloc])
  unfold PL
  simpa [pairCells] using this

theorem store_new2 {g : Heap} (k : Ok g) {x y : Value} {a b : Int} : storeA (g.alloc { cells := [x, y], esz := 0 }) 2 (.pointer (some ⟨g.next, 0, none⟩)) (.agg #[.int .i64 a, .int .i64 b]) = some (undef, (g.alloc { cells := [x, y], esz := 0 }).put g.next { cells := [.int .i64 a, .int .i64 b], esz := 0 }) := by
  have hb : (g.alloc { cells := [x, y], esz := 0 }).base ≤ g.next := k.le
  have hg : (g.alloc { cells := [x, y], esz := 0 }).get g.next = some { cells := [x, y], esz := 0 } := by simp [Heap.alloc]
  rw [show (Value.agg #[.int .i64 a, .int .i64 b]) = .agg [Value.int .i64 a, .int .i64 b].toArray from rfl, storeN hb (by rw [ones_cons, ones_cons, ones_nil]; exact ⟨rfl, rfl, trivial⟩), hg]
  rfl
theorem store_new1 {g : Heap} (k : Ok g) {x : Value} {a : Int} : storeA (g.alloc { cells := [x], esz := 0 }) 1 (.pointer (some ⟨g.next, 0, none⟩)) (.int .i64 a) = some (undef, (g.alloc { cells := [x], esz := 0 }).put g.next { cells := [.int .i64 a], esz := 0 }) := by
  have hb : (g.alloc { cells := [x], esz := 0 }).base ≤ g.next := k.le
  have hg : (g.alloc { cells := [x], esz := 0 }).get g.next = some { cells := [x], esz := 0 } := by simp [Heap.alloc]
  rw [store1 hb rfl rfl, hg]
  rfl

set_option maxHeartbeats 4000000 in
theorem rootTail {ρ : Nat → Value} {g : Heap} (kg : Ok g) {w4 w6 w7 : Value} {n k : Nat} (n2 : 2 ≤ n) (n8 : n ≤ 8) (hk4 : 1 ≤ k ∧ k ≤ 4) {J : List (Int × Int)} (ht : treeB n J = true) (hJ : Pairs g w4 J) (f4 : Fit w4) {f : Nat → Nat → Int} (T : Tri k k f) (hc : Mat g w6 (matF k f)) (f6 : Fit w6) {L : List Int} (sl : statesB n k L = true) (hl : Ints g w7 L) (f7 : Fit w7)
    {z : Nat} {I : Int} (hz : g.get z = some { cells := [.int .i64 I], esz := 0 }) (hzb : g.base ≤ z) {m last : Nat} (hI : I = ((n + m : Nat) : Int)) (hlast : J.length = last + 1) (hm : m < last) {o : Int} (hr : ((J.getD last (0, 0)).1 = I ∧ (J.getD last (0, 0)).2 = o) ∨ ((J.getD last (0, 0)).2 = I ∧ (J.getD last (0, 0)).1 = o))
    (h3 : ρ 3 = .int .i64 n) (h4 : ρ 4 = w4) (h6 : ρ 6 = w6) (h7 : ρ 7 = w7) (h8 : ρ 8 = .int .i64 last) (h10 : ρ 10 = .pointer (some ⟨z, 0, none⟩)) (h11 : ρ 11 = .int .i64 o) :
    wpC (Call T1) (.seq (.region r5_11) (.seq (.region r5_12) (.seq (.seq (.region r5_13) (.block 0 (.loop b5_1))) (.seq (.region r5_18) (.seq (.region r5_19) (.seq (.region r5_20) (.seq (.region r5_21) .ret))))))) (endP [.tmp 2] (fun v _ => v = .bool true)) ρ g := by
  obtain ⟨pre, post, ⟨pA, pB⟩, ⟨rA, rB⟩, eJ, e1, e2, e3, e4⟩ := split_at (J := J) (m := m) (by omega)
  subst e1
  have hll : last = pre.length + 1 + post.length := by omega
  rw [hlast, Nat.add_sub_cancel] at e4
  rw [e4] at hr
  have hr2 : (rA = ((n + pre.length : Nat) : Int) ∧ rB = o) ∨ (rB = ((n + pre.length : Nat) : Int) ∧ rA = o) := by rw [← hI]; exact hr
  have htJ := ht
  rw [eJ] at ht
  obtain ⟨mt, m1, m2, m3, m4, m5, m6, m7⟩ := moved_tree ht hr2
  have ans := answer_moved n8 hk4 T sl ht hr2
  have hN : n + pre.length + post.length = n + last - 1 := by omega
  rw [hN, ← hI] at mt ans
  rw [← eJ] at ans
  rw [← hI] at m3 m4 m7
  have hmv : mvN J I pre.length last = pre.map (nm2 I) ++ post.map (nm2 I) := by rw [hll, eJ]; exact mvN_all _ _ _ _ _
  have hlen8 : J.length + 1 = n := by simp only [treeB, Bool.and_eq_true, decide_eq_true_eq] at htJ; omega
  have hB : ∀ x ∈ flat J, 0 ≤ x ∧ x ≤ 1000 := fun x hx => by
    simp only [treeB, Bool.and_eq_true] at htJ
    have := Bnds_flat ((joinsOk_iff _ _ _ _).1 htJ.2).1 x hx
    omega
  have lz : loadA g 1 false (.pointer (some ⟨z, 0, none⟩)) = some (.int .i64 I) := by rw [load1 hzb, hz]; rfl
  have hwm : IntKind.wrap .i64 (I - (n : Int)) = (pre.length : Int) := by rw [hI, wrap_in] <;> omega
  obtain ⟨b, ob, i1, i2, _, _⟩ := pair_row hJ (i := pre.length) (by omega)
  rw [e3] at i2
  simp only at i2
  have x0 := Ext.alloc g { cells := [], esz := 0 }
  have k0 := kg.alloc { cells := [], esz := 0 }
  obtain ⟨x1, k1, g1p⟩ := ext_put_new x0 k0 (o := { cells := [.int .i64 0, .int .i64 0], esz := 0 }) (o' := { cells := [.int .i64 pA, .int .i64 pB], esz := 0 })
  have hst := store_new2 k0 (x := .int .i64 0) (y := .int .i64 0) (a := pA) (b := pB)
  have zb0 : (g.alloc { cells := [], esz := 0 }).base ≤ (g.alloc { cells := [], esz := 0 }).next := k0.le
  simp only [↓SP, SQ, SG, SL, ↓reduceIte, undef, iop, isShift, Nat.reduceEqDiff, reduceCtorEq, Nat.reduceAdd, Nat.reduceMul, Nat.reduceSub, Nat.reduceLT, Nat.reduceLeDiff, Int.reduceLT, Int.reduceLE, Int.reduceEq, Int.reduceGT, Int.reduceGE, Int.reduceNeg, Int.reduceToNat, ne_eq, if_true, if_false, List.map_cons, List.map_nil, lz, hwm, r5_11, r5_12, r5_13,  h3, h4, h10, i1, i2, hst]
  have hb1 : (((g.alloc { cells := [], esz := 0 }).alloc { cells := [Value.int IntKind.i64 0, Value.int IntKind.i64 0], esz := 0 }).put (g.alloc { cells := [], esz := 0 }).next { cells := [Value.int IntKind.i64 pA, Value.int IntKind.i64 pB], esz := 0 }).base = (g.alloc { cells := [], esz := 0 }).base := rfl
  generalize (((g.alloc { cells := [], esz := 0 }).alloc { cells := [Value.int IntKind.i64 0, Value.int IntKind.i64 0], esz := 0 }).put (g.alloc { cells := [], esz := 0 }).next { cells := [Value.int IntKind.i64 pA, Value.int IntKind.i64 pB], esz := 0 }) = g1 at *
  generalize hy : (g.alloc { cells := [], esz := 0 }).next = y at *
  rw [← hb1] at zb0
  clear hst
  have hz1 : g1.get z = some { cells := [.int .i64 I], esz := 0 } := by rw [x1.get z (kg.lt hz)]; exact hz
  have hzb1 : g1.base ≤ z := by rw [x1.base]; exact hzb
  have lz1 : loadA g1 1 false (.pointer (some ⟨z, 0, none⟩)) = some (.int .i64 I) := by rw [load1 hzb1, hz1]; rfl
  refine wp_doneK Call.mono (movedLoop (n := n) (m := pre.length) (last := last) k1 k1 (.refl _) (hJ.ext x1 kg) hB (by omega) (by omega) hI (by omega) lz1 (Own.empty _ _ _ _) h3 h4 h8 h10 rfl rfl rfl hzb1 hz1) ?_
  rintro e ρ2 g2 ⟨rfl, k2, x2, pl2⟩ keep
  have ρ2_3 := (keep 3 (of_decide_eq_true rfl)).trans h3
  have ρ2_4 := (keep 4 (of_decide_eq_true rfl)).trans h4
  have ρ2_6 := (keep 6 (of_decide_eq_true rfl)).trans h6
  have ρ2_7 := (keep 7 (of_decide_eq_true rfl)).trans h7
  have ρ2_8 := (keep 8 (of_decide_eq_true rfl)).trans h8
  have ρ2_11 := (keep 11 (of_decide_eq_true rfl)).trans h11
  have ρ2_12 : ρ2 12 = .pointer (some ⟨y, 0, none⟩) := keep 12 (of_decide_eq_true rfl)
  have ρ2_14 : ρ2 14 = .func (.func 25) #[] #[.pointer (some ⟨z, 0, none⟩)] := keep 14 (of_decide_eq_true rfl)
  clear keep
  have x02 := x1.trans x2
  have lz2 : loadA g2 1 false (.pointer (some ⟨z, 0, none⟩)) = some (.int .i64 I) := by
    have : g2.get z = some { cells := [.int .i64 I], esz := 0 } := by rw [x02.get z (kg.lt hz)]; exact hz
    rw [load1 (by rw [x02.base]; exact hzb), this]; rfl
  have gy : g2.get y = some { cells := [.int .i64 pA, .int .i64 pB], esz := 0 } := by rw [x2.get y (k1.lt g1p)]; exact g1p
  have by_ : g2.base ≤ y := by rw [x2.base]; exact zb0
  have ly1 : loadA g2 1 false (.pointer (some ⟨y, 0, none⟩)) = some (.int .i64 pA) := by rw [load1 by_, gy]; rfl
  have ly2 : loadA g2 1 false (.pointer (some ⟨y, 1, none⟩)) = some (.int .i64 pB) := by rw [load1 by_, gy]; rfl
  have hw1 : IntKind.wrap .i64 ((n : Int) + (last : Int)) = ((n + last : Nat) : Int) := by rw [wrap_in] <;> omega
  have hw2 : IntKind.wrap .i64 (((n + last : Nat) : Int) - 1) = ((n + last - 1 : Nat) : Int) := by rw [wrap_in] <;> omega
  rw [hmv] at pl2
  generalize hw13 : ρ2 13 = w13 at *
  have hml : (pre.map (nm2 I) ++ post.map (nm2 I)).length ≤ 1000000 := by simp; omega
  obtain ⟨v5, g5, e5, r5, x5, k5⟩ := PL.pushTwo x2 k2 pl2 hml (nm I pB) (nm I o) (nm I pA) ((n + last - 1 : Nat) : Int)
  simp only [↓SP, SQ, SG, SL, ↓reduceIte, undef, iop, isShift, Nat.reduceEqDiff, reduceCtorEq, Nat.reduceAdd, Nat.reduceMul, Nat.reduceSub, Nat.reduceLT, Nat.reduceLeDiff, Int.reduceLT, Int.reduceLE, Int.reduceEq, Int.reduceGT, Int.reduceGE, Int.reduceNeg, Int.reduceToNat, ne_eq, if_true, if_false, List.map_cons, List.map_nil, r5_18,  ρ2_3, ρ2_8, ρ2_11, ρ2_12, ρ2_14, hw13, ly1, ly2, hw1, hw2]
  refine (name_spec lz2 (by omega) (by omega)).imp ?_
  rintro v h' ⟨rfl, rfl⟩
  simp only [↓SP, SQ, SG, SL, ↓reduceIte, undef, iop, isShift, Nat.reduceEqDiff, reduceCtorEq, Nat.reduceAdd, Nat.reduceMul, Nat.reduceSub, Nat.reduceLT, Nat.reduceLeDiff, Int.reduceLT, Int.reduceLE, Int.reduceEq, Int.reduceGT, Int.reduceGE, Int.reduceNeg, Int.reduceToNat, ne_eq, if_true, if_false, List.map_cons, List.map_nil]
  refine (name_spec lz2 (by omega) (by omega)).imp ?_
  rintro v h' ⟨rfl, rfl⟩
  simp only [↓SP, SQ, SG, SL, ↓reduceIte, undef, iop, isShift, Nat.reduceEqDiff, reduceCtorEq, Nat.reduceAdd, Nat.reduceMul, Nat.reduceSub, Nat.reduceLT, Nat.reduceLeDiff, Int.reduceLT, Int.reduceLE, Int.reduceEq, Int.reduceGT, Int.reduceGE, Int.reduceNeg, Int.reduceToNat, ne_eq, if_true, if_false, List.map_cons, List.map_nil]
  refine (name_spec lz2 (by omega) (by omega)).imp ?_
  rintro v h' ⟨rfl, rfl⟩
  have mvE : pre.map (nm2 I) ++ post.map (nm2 I) ++ [(nm I pB, nm I o), (nm I pA, ((n + last - 1 : Nat) : Int))] = movedJ ((n + last - 1 : Nat) : Int) I pre post pA pB o := rfl
  rw [mvE] at r5
  generalize movedJ ((n + last - 1 : Nat) : Int) I pre post pA pB o = MJ at *
  have x05 := x1.trans x5
  have J5 := hJ.ext x05 kg
  have c5 := hc.ext x05 kg
  have l5 := hl.ext x05 kg
  have W1 := why_ok htJ (costsB_of hk4 T.sy.bd) (matF_length k f) sl
  have W2 := why_ok mt (costsB_of hk4 T.sy.bd) (matF_length k f) sl
  simp only [↓SP, SQ, SG, SL, ↓reduceIte, undef, iop, isShift, Nat.reduceEqDiff, reduceCtorEq, Nat.reduceAdd, Nat.reduceMul, Nat.reduceSub, Nat.reduceLT, Nat.reduceLeDiff, Int.reduceLT, Int.reduceLE, Int.reduceEq, Int.reduceGT, Int.reduceGE, Int.reduceNeg, Int.reduceToNat, ne_eq, if_true, if_false, List.map_cons, List.map_nil, Nat.le_refl, SM, made_four, r5_19,  ρ2_3, ρ2_4, ρ2_6, ρ2_7, e5]
  refine (least_spec k5 J5 c5 f6 f4 f7 l5).imp ?_
  rintro v g6 ⟨rfl, m6'⟩
  simp only [↓SP, SQ, SG, SL, ↓reduceIte, undef, iop, isShift, Nat.reduceEqDiff, reduceCtorEq, Nat.reduceAdd, Nat.reduceMul, Nat.reduceSub, Nat.reduceLT, Nat.reduceLeDiff, Int.reduceLT, Int.reduceLE, Int.reduceEq, Int.reduceGT, Int.reduceGE, Int.reduceNeg, Int.reduceToNat, ne_eq, if_true, if_false, List.map_cons, List.map_nil, Nat.le_refl, SM, r5_20,  ρ2_3, ρ2_4, ρ2_6, ρ2_7, List.getElem?_toArray]
  refine (least_spec m6'.2 (r5.pairs.ext m6'.1 k5) (c5.ext m6'.1 k5) f6 (Own.fit r5) f7 (l5.ext m6'.1 k5)).imp ?_
  rintro v g7 ⟨rfl, m7'⟩
  rw [W1.1, W2.1, W1.2.1, W2.2.1, ← ans]
  simp only [↓SP, SQ, SG, SL, ↓reduceIte, undef, iop, isShift, Nat.reduceEqDiff, reduceCtorEq, Nat.reduceAdd, Nat.reduceMul, Nat.reduceSub, Nat.reduceLT, Nat.reduceLeDiff, Int.reduceLT, Int.reduceLE, Int.reduceEq, Int.reduceGT, Int.reduceGE, Int.reduceNeg, Int.reduceToNat, ne_eq, if_true, if_false, List.map_cons, List.map_nil, Nat.le_refl, SM, r5_21,  List.getElem?_toArray]
  refine lives_call ?_
  simp only [↓SP, SQ, SG, SL, ↓reduceIte, undef, iop, isShift, Nat.reduceEqDiff, reduceCtorEq, Nat.reduceAdd, Nat.reduceMul, Nat.reduceSub, Nat.reduceLT, Nat.reduceLeDiff, Int.reduceLT, Int.reduceLE, Int.reduceEq, Int.reduceGT, Int.reduceGE, Int.reduceNeg, Int.reduceToNat, ne_eq, if_true, if_false, List.map_cons, List.map_nil]

set_option maxHeartbeats 4000000 in
theorem root_law {h : Heap} (kk : Ok h) {N K : Int} (hN : 0 ≤ N ∧ N < 256) (hK : 0 ≤ K ∧ K < 256) {j c l : Value} {js cs ls : List Int} (hj : Bytes h j js) (hc : Bytes h c cs) (hl : Bytes h l ls) (fj : Fit j) (fc : Fit c) (fl : Fit l) :
    Call T1 5 [.agg #[.int .u8 N, .int .u8 K, j, c, l]] h (fun v _ => v = .bool true) := by
  refine Call.of (fn := f5) rfl (by simp [f5]) ?_
  unfold f5
  have cj := fj.cell
  have cc := fc.cell
  have cl := fl.cell
  obtain ⟨K', rfl⟩ : ∃ m : Nat, K = m := ⟨K.toNat, by omega⟩
  obtain ⟨k, hk⟩ : ∃ k : Nat, K' % 4 + 1 = k := ⟨_, rfl⟩
  have hk4 : 1 ≤ k ∧ k ≤ 4 := by omega
  have u1 : IntKind.wrap .i64 (K' : Int) = K' := by rw [wrap_in] <;> omega
  have u2 : Int.tmod (K' : Int) 4 = ((K' % 4 : Nat) : Int) := tmod_nat (b := 4)
  have u3 : IntKind.wrap .i64 (((K' % 4 : Nat) : Int) + 1) = (k : Int) := by rw [wrap_in] <;> omega
  obtain ⟨O, hO⟩ : ∃ O : List Value, O = [.int .u8 N, .int .u8 K', j, c, l] := ⟨_, rfl⟩
  have xa : Ext h (h.alloc { cells := O, esz := 0 }) := .alloc _ _
  have ka : Ok (h.alloc { cells := O, esz := 0 }) := kk.alloc _
  have ga : (h.alloc { cells := O, esz := 0 }).get h.next = some { cells := O, esz := 0 } := by simp [Heap.alloc]
  have ba : (h.alloc { cells := O, esz := 0 }).base ≤ h.next := kk.le
  simp only [↓SP, SQ, SG, SL, ↓reduceIte, undef, iop, isShift, Nat.reduceEqDiff, reduceCtorEq, Nat.reduceAdd, Nat.reduceMul, Nat.reduceSub, Nat.reduceLT, Nat.reduceLeDiff, Int.reduceLT, Int.reduceLE, Int.reduceEq, Int.reduceGT, Int.reduceGE, Int.reduceNeg, Int.reduceToNat, ne_eq, if_true, if_false, List.map_cons, List.map_nil, r5_0]
  rw [← hO]
  generalize (h.alloc { cells := O, esz := 0 }) = g at *
  have gat : ∀ {g' : Heap}, Ext g g' → g'.get h.next = some { cells := O, esz := 0 } ∧ g'.base ≤ h.next := fun x => ⟨by rw [x.get _ (ka.lt ga)]; exact ga, by rw [x.base]; exact ba⟩
  subst hO
  simp only [↓SP, SQ, SG, SL, ↓reduceIte, undef, iop, isShift, Nat.reduceEqDiff, reduceCtorEq, Nat.reduceAdd, Nat.reduceMul, Nat.reduceSub, Nat.reduceLT, Nat.reduceLeDiff, Int.reduceLT, Int.reduceLE, Int.reduceEq, Int.reduceGT, Int.reduceGE, Int.reduceNeg, Int.reduceToNat, ne_eq, if_true, if_false, List.map_cons, List.map_nil, Nat.le_refl, SM, r5_1,  ga, ba]
  refine (made_spec ka hN (hj.ext xa kk)).imp ?_
  rintro v g1 ⟨n, w4, J, rfl, n2, n8, ht, pl, m1⟩
  obtain ⟨ga1, ba1⟩ := gat m1.1
  simp only [↓SP, SQ, SG, SL, ↓reduceIte, undef, iop, isShift, Nat.reduceEqDiff, reduceCtorEq, Nat.reduceAdd, Nat.reduceMul, Nat.reduceSub, Nat.reduceLT, Nat.reduceLeDiff, Int.reduceLT, Int.reduceLE, Int.reduceEq, Int.reduceGT, Int.reduceGE, Int.reduceNeg, Int.reduceToNat, ne_eq, if_true, if_false, List.map_cons, List.map_nil, Nat.le_refl, SM, r5_1, r5_2, r5_3,  List.getElem?_toArray, ga1, ba1, u1, u2, u3]
  refine (lawCosts_spec m1.2 hk4 ((hc.ext xa kk).ext m1.1 ka) true).imp ?_
  rintro w6 g2 ⟨f, of6, _, T, m2⟩
  have T := T rfl
  have m12 := m1.trans m2
  obtain ⟨ga2, ba2⟩ := gat m12.1
  have hrd : rdA g1 (.pointer (some ⟨h.next, 4, none⟩)) 1 = rdA g2 (.pointer (some ⟨h.next, 4, none⟩)) 1 := (rdA_congr m2.1.base (by rw [ga1, ga2])).symm
  simp only [↓SP, SQ, SG, SL, ↓reduceIte, undef, iop, isShift, Nat.reduceEqDiff, reduceCtorEq, Nat.reduceAdd, Nat.reduceMul, Nat.reduceSub, Nat.reduceLT, Nat.reduceLeDiff, Int.reduceLT, Int.reduceLE, Int.reduceEq, Int.reduceGT, Int.reduceGE, Int.reduceNeg, Int.reduceToNat, ne_eq, if_true, if_false, List.map_cons, List.map_nil, Nat.le_refl, SM, ga1, ba1, ga2, ba2, hrd]
  refine (lawStates_spec m2.2 (by omega) (by omega) ((hl.ext xa kk).ext m12.1 ka)).imp ?_
  rintro w7 g3 ⟨L, il7, sl, m3⟩
  have J3 := pl.pairs.ext (m2.1.trans m3.1) m1.2
  have c3 := of6.mat.ext m3.1 m2.2
  have hlen8 : J.length + 1 = n := by simp only [treeB, Bool.and_eq_true, decide_eq_true_eq] at ht; omega
  obtain ⟨last, hlast⟩ : ∃ last, J.length = last + 1 := ⟨J.length - 1, by omega⟩
  have hjl := J3.len
  rw [hlast] at hjl
  have w1 : IntKind.wrap .i64 (((last + 1 : Nat) : Int) - 1) = (last : Int) := by rw [wrap_in] <;> omega
  obtain ⟨b, ob, i1, i2, _, _⟩ := pair_row J3 (i := last) (by omega)
  obtain ⟨⟨rA, rB⟩, er⟩ : ∃ r, J.getD last (0, 0) = r := ⟨_, rfl⟩
  rw [er] at i2
  simp only at i2
  have hBd : (0 ≤ rA ∧ rA < n + last) ∧ 0 ≤ rB ∧ rB < n + last := by
    have e : J = J.take last ++ [(rA, rB)] := by
      have h1 : J.take last ++ J.drop last = J := List.take_append_drop _ _
      rw [List.drop_eq_getElem_cons (by omega), List.drop_of_length_le (by omega), ← getD_in (by omega : last < J.length) (0, 0), er] at h1
      exact h1.symm
    have h2 : joinsOk n 0 [] J = true := by simp only [treeB, Bool.and_eq_true] at ht; exact ht.2
    have h3 := ((joinsOk_iff _ _ _ _).1 h2).1
    rw [e, Bnds_app] at h3
    have h4 := h3.2
    simp only [Bnds, List.length_take, Nat.zero_add] at h4
    have : min last J.length = last := by omega
    rw [this] at h4
    omega
  have hst := store_new2 m3.2 (x := .int .i64 0) (y := .int .i64 0) (a := rA) (b := rB)
  obtain ⟨x4, k4, gz4⟩ := ext_put_new (.refl g3) m3.2 (o := { cells := [.int .i64 0, .int .i64 0], esz := 0 }) (o' := { cells := [.int .i64 rA, .int .i64 rB], esz := 0 })
  have hb4 : g3.base ≤ g3.next := m3.2.le
  simp only [↓SP, SQ, SG, SL, ↓reduceIte, undef, iop, isShift, Nat.reduceEqDiff, reduceCtorEq, Nat.reduceAdd, Nat.reduceMul, Nat.reduceSub, Nat.reduceLT, Nat.reduceLeDiff, Int.reduceLT, Int.reduceLE, Int.reduceEq, Int.reduceGT, Int.reduceGE, Int.reduceNeg, Int.reduceToNat, ne_eq, if_true, if_false, List.map_cons, List.map_nil, r5_4, r5_5,  hjl, w1, i1, i2, hst]
  have hbb : ((g3.alloc { cells := [Value.int IntKind.i64 0, Value.int IntKind.i64 0], esz := 0 }).put g3.next { cells := [Value.int IntKind.i64 rA, Value.int IntKind.i64 rB], esz := 0 }).base = g3.base := rfl
  generalize ((g3.alloc { cells := [Value.int IntKind.i64 0, Value.int IntKind.i64 0], esz := 0 }).put g3.next { cells := [Value.int IntKind.i64 rA, Value.int IntKind.i64 rB], esz := 0 }) = g4 at *
  rw [← hbb] at hb4
  clear hst
  have J4 := J3.ext x4 m3.2
  have c4 := c3.ext x4 m3.2
  have l4 := il7.ints.ext x4 m3.2
  have f4 : Fit w4 := Own.fit pl
  have f6 := of6.fit
  have f7 := il7.fit
  -- the tail, whichever the inner one is
  have tail : ∀ {ρ : Nat → Value} {g5 : Heap} {z : Nat} {I o : Int}, Ok g5 → Ext g4 g5 → g5.get z = some { cells := [.int .i64 I], esz := 0 } → g5.base ≤ z → (n : Int) ≤ I → ((rA = I ∧ rB = o) ∨ (rB = I ∧ rA = o)) → ρ 3 = .int .i64 n → ρ 4 = w4 → ρ 6 = w6 → ρ 7 = w7 → ρ 8 = .int .i64 last → ρ 10 = .pointer (some ⟨z, 0, none⟩) → ρ 11 = .int .i64 o →
      wpC (Call T1) (.seq (.region r5_11) (.seq (.region r5_12) (.seq (.seq (.region r5_13) (.block 0 (.loop b5_1))) (.seq (.region r5_18) (.seq (.region r5_19) (.seq (.region r5_20) (.seq (.region r5_21) .ret))))))) (endP [.tmp 2] (fun v _ => v = .bool true)) ρ g5 := by
    intro ρ g5 z I o k5 x5 hz hzb hI hr a3 a4 a6 a7 a8 a10 a11
    refine rootTail k5 n2 n8 hk4 ht (J4.ext x5 k4) f4 T (c4.ext x5 k4) f6 sl (l4.ext x5 k4) f7 hz hzb (m := (I - n).toNat) (last := last) ?_ hlast ?_ (o := o) ?_ a3 a4 a6 a7 a8 a10 a11
    · omega
    · rcases hr with ⟨h1, h2⟩ | ⟨h1, h2⟩ <;> omega
    · rw [er]; exact hr
  have hst1 := store_new1 k4 (x := .int .i64 0) (a := rA)
  obtain ⟨x5, k5, gz5⟩ := ext_put_new (.refl g4) k4 (o := { cells := [.int .i64 0], esz := 0 }) (o' := { cells := [.int .i64 rA], esz := 0 })
  have hb5 : g4.base ≤ g4.next := k4.le
  have hne : g3.next < g4.next := k4.lt gz4
  have hkp : rdA (g4.alloc { cells := [.int .i64 0], esz := 0 }) (.pointer (some ⟨g3.next, 1, none⟩)) 1 = rdA ((g4.alloc { cells := [.int .i64 0], esz := 0 }).put g4.next { cells := [.int .i64 rA], esz := 0 }) (.pointer (some ⟨g3.next, 1, none⟩)) 1 := by
    symm
    refine rdA_congr ?_ ?_
    · rfl
    · simp only [Heap.put]
      rw [if_neg (by omega)]
  by_cases dA : rA < (n : Int)
  rotate_left
  · simp only [↓SP, SQ, SG, SL, ↓reduceIte, undef, iop, isShift, Nat.reduceEqDiff, reduceCtorEq, Nat.reduceAdd, Nat.reduceMul, Nat.reduceSub, Nat.reduceLT, Nat.reduceLeDiff, Int.reduceLT, Int.reduceLE, Int.reduceEq, Int.reduceGT, Int.reduceGE, Int.reduceNeg, Int.reduceToNat, ne_eq, if_true, if_false, List.map_cons, List.map_nil, Nat.le_refl, SM, r5_6, r5_8, r5_9,  gz4, hb4, hb5, hst1, dA, hkp]
    exact tail k5 x5 gz5 hb5 (by omega) (.inl ⟨rfl, rfl⟩) rfl rfl rfl rfl rfl rfl rfl
  by_cases dB : rB < (n : Int)
  · simp only [↓SP, SQ, SG, SL, ↓reduceIte, undef, iop, isShift, Nat.reduceEqDiff, reduceCtorEq, Nat.reduceAdd, Nat.reduceMul, Nat.reduceSub, Nat.reduceLT, Nat.reduceLeDiff, Int.reduceLT, Int.reduceLE, Int.reduceEq, Int.reduceGT, Int.reduceGE, Int.reduceNeg, Int.reduceToNat, ne_eq, if_true, if_false, List.map_cons, List.map_nil, Nat.le_refl, SM, r5_6, r5_7,  gz4, hb4, dA, dB]
    refine lives_call ?_
    simp only [↓SP, SQ, SG, SL, ↓reduceIte, undef, iop, isShift, Nat.reduceEqDiff, reduceCtorEq, Nat.reduceAdd, Nat.reduceMul, Nat.reduceSub, Nat.reduceLT, Nat.reduceLeDiff, Int.reduceLT, Int.reduceLE, Int.reduceEq, Int.reduceGT, Int.reduceGE, Int.reduceNeg, Int.reduceToNat, ne_eq, if_true, if_false, List.map_cons, List.map_nil]
  simp only [↓SP, SQ, SG, SL, ↓reduceIte, undef, iop, isShift, Nat.reduceEqDiff, reduceCtorEq, Nat.reduceAdd, Nat.reduceMul, Nat.reduceSub, Nat.reduceLT, Nat.reduceLeDiff, Int.reduceLT, Int.reduceLE, Int.reduceEq, Int.reduceGT, Int.reduceGE, Int.reduceNeg, Int.reduceToNat, ne_eq, if_true, if_false, List.map_cons, List.map_nil, Nat.le_refl, SM, r5_6, r5_8,  gz4, hb4, hb5, hst1, dA, dB, hkp]
  have hbb5 : ((g4.alloc { cells := [Value.int IntKind.i64 0], esz := 0 }).put g4.next { cells := [Value.int IntKind.i64 rA], esz := 0 }).base = g4.base := rfl
  generalize ((g4.alloc { cells := [Value.int IntKind.i64 0], esz := 0 }).put g4.next { cells := [Value.int IntKind.i64 rA], esz := 0 }) = g5 at *
  rw [← hbb5] at hb5
  simp only [↓SP, SQ, SG, SL, ↓reduceIte, undef, iop, isShift, Nat.reduceEqDiff, reduceCtorEq, Nat.reduceAdd, Nat.reduceMul, Nat.reduceSub, Nat.reduceLT, Nat.reduceLeDiff, Int.reduceLT, Int.reduceLE, Int.reduceEq, Int.reduceGT, Int.reduceGE, Int.reduceNeg, Int.reduceToNat, ne_eq, if_true, if_false, List.map_cons, List.map_nil, Nat.le_refl, SM, r5_9, r5_10,  gz5, hb5, dA]
  exact tail (k5.put' gz5) (x5.put (Nat.le_refl _) _) (by simp [Heap.put]) hb5 (by omega) (.inr ⟨rfl, rfl⟩) rfl rfl rfl rfl rfl rfl rfl

end Go.AM.K
