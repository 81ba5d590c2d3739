/- Track: sankoff. -/
import Derived.Test.YtkhhdemhlbaboaaAMS
import Derived.Test.YtkhhdemhlbaboaaK6
set_option linter.unusedVariables false
set_option linter.unusedSimpArgs false
set_option maxRecDepth 20000
namespace Go.AM.K
open Go.AM Go.AM.Fn Go.AM.TP
attribute [local congr] ite_cond

theorem ext_put_new {h g : Heap} (x : Ext h g) (k : Ok g) {o o' : Blk} : Ext h ((g.alloc o).put g.next o') ∧ Ok ((g.alloc o).put g.next o') ∧ ((g.alloc o).put g.next o').get g.next = some o' :=
  ⟨(x.alloc' _).put x.next _, (k.alloc _).put (by simp [Heap.alloc]) _, by simp [Heap.put]⟩

set_option maxHeartbeats 8000000 in
theorem sankoff_spec {h : Heap} (kk : Ok h) {p : Value} {n : Nat} {k : Nat} {js : List (Int × Int)} {costs : List (List Int)} {leaves : List Int} (P : Prob h p n k js costs leaves) (hn : n ≤ 8) (ht : treeB n js = true) (hc : costsB costs = true) (hk : costs.length = k) (hl : statesB n k leaves = true)
    {f : Value} {fx : List Int} (hf : Ints h f fx) (hfl : js.length ≤ fx.length) (hfx : ∀ i, i < js.length → fx.getD i 0 < 0) :
    Call T1 60 [p, f] h (fun v h' => OL eTwo h h' v (tabs k costs leaves js) ∧ More h h') := by
  refine Call.more kk ?_
  obtain ⟨b, pc, j, l, c, rfl, p1, p2, p3, p4, p5, p6, p7⟩ := P.out
  refine Call.of (fn := f60) rfl (by simp [f60]) ?_
  unfold f60
  have hk4 : 1 ≤ k ∧ k ≤ 4 := by simp only [costsB, Bool.and_eq_true, decide_eq_true_eq] at hc; omega
  have hst := hl
  simp only [statesB, Bool.and_eq_true, decide_eq_true_eq, List.all_eq_true] at hst
  have hll : leaves.length ≤ 8 := by omega
  have hjl : js.length ≤ 7 := by simp only [treeB, Bool.and_eq_true, decide_eq_true_eq] at ht; omega
  have x0 : Ext h (h.alloc { cells := [.pointer (some ⟨b, 0, none⟩)], esz := 0 }) := .alloc _ _
  have k0 : Ok (h.alloc { cells := [.pointer (some ⟨b, 0, none⟩)], esz := 0 }) := kk.alloc _
  have gp0 : (h.alloc { cells := [.pointer (some ⟨b, 0, none⟩)], esz := 0 }).get h.next = some { cells := [.pointer (some ⟨b, 0, none⟩)], esz := 0 } := by simp [Heap.alloc]
  have hbn : h.base ≤ h.next := kk.le
  simp only [↓SP, SQ, SG, SL, ↓reduceIte, undef, iop, isShift, Nat.reduceEqDiff, reduceCtorEq, Nat.reduceAdd, Nat.reduceMul, Nat.reduceSub, Nat.reduceLT, Nat.reduceLeDiff, Int.reduceLT, Int.reduceLE, Int.reduceEq, Int.reduceGT, Int.reduceGE, Int.reduceNeg, Int.reduceToNat, ne_eq, if_true, if_false, List.map_cons, List.map_nil, r60_0, r60_1]
  generalize (h.alloc { cells := [.pointer (some ⟨b, 0, none⟩)], esz := 0 }) = g0 at *
  generalize h.next = pp at *
  have PF : ∀ g, Ext g0 g → g.base ≤ pp ∧ g.get pp = some { cells := [.pointer (some ⟨b, 0, none⟩)], esz := 0 } ∧ g.base ≤ b ∧ g.get b = some { cells := [.int .i64 n, j, l, .int .i64 k, .func (.func 59) #[] #[.pointer (some ⟨pc, 0, none⟩)]], esz := 0 } ∧ Pairs g j js ∧ Ints g l leaves ∧ Prob g (.pointer (some ⟨b, 0, none⟩)) n k js costs leaves ∧ Ints g f fx := by
    intro g x
    have xx := x0.trans x
    exact ⟨by rw [xx.base]; exact hbn, by rw [x.get _ (k0.lt gp0)]; exact gp0, by rw [xx.base]; exact p1, by rw [xx.get _ (kk.lt p3)]; exact p3, p5.ext xx kk, p6.ext xx kk, P.ext xx kk, hf.ext xx kk⟩
  obtain ⟨f1, f2, f3, f4, _⟩ := PF g0 (.refl _)
  have hlen := p6.len
  have hjlen := p5.len
  have c5 : ((8 : Nat) : Int) * (k : Int) ≤ 281474976710656 := by omega
  have c6 : (k : Int) ≤ 9223372036854775807 := by omega
  simp only [↓SP, SQ, SG, SL, ↓reduceIte, undef, iop, isShift, Nat.reduceEqDiff, reduceCtorEq, Nat.reduceAdd, Nat.reduceMul, Nat.reduceSub, Nat.reduceLT, Nat.reduceLeDiff, Int.reduceLT, Int.reduceLE, Int.reduceEq, Int.reduceGT, Int.reduceGE, Int.reduceNeg, Int.reduceToNat, ne_eq, if_true, if_false, List.map_cons, List.map_nil, Nat.le_refl, SM, r60_2,  f1, f2, f3, f4, hlen]
  refine wp_loopK Call.mono (fun q ρ g => Ext g0 g ∧ Ok g ∧ ∃ i : Nat, ρ 23 = .int .i64 i ∧ i + q = leaves.length ∧ OL eTwo g0 g (ρ 5) ((leaves.take i).map (leafT k))) ?_ (m := leaves.length) ⟨.refl _, k0, 0, rfl, by omega, OL.nil _ _ _⟩
  rintro q ρ g ⟨xg, kg, i, q23, hq, ol⟩ keep
  have ρ_1 : ρ 1 = f := by rw [keep 1 (of_decide_eq_true rfl)]; first | rfl | assumption
  have ρ_2 : ρ 2 = .pointer (some ⟨pp, 0, none⟩) := by rw [keep 2 (of_decide_eq_true rfl)]; first | rfl | assumption
  have ρ_21 : ρ 21 = l := by rw [keep 21 (of_decide_eq_true rfl)]; first | rfl | assumption
  have ρ_22 : ρ 22 = .int .i64 leaves.length := by rw [keep 22 (of_decide_eq_true rfl)]; first | rfl | assumption
  unfold b60_1
  obtain ⟨f1, f2, f3, f4, f5, f6, f7, f8⟩ := PF g xg
  by_cases hi : i < leaves.length
  · obtain ⟨a1, e1, e2⟩ := f6.row hi
    have hsi := hst.2 _ (List.getElem_mem hi)
    obtain ⟨s, hs⟩ : ∃ s : Nat, leaves[i] = s := ⟨leaves[i].toNat, by omega⟩
    rw [hs] at hsi e2
    have hsk : s < k := by omega
    have hwi : IntKind.wrap .i64 ((i : Int) + 1) = ((i + 1 : Nat) : Int) := by rw [wrap_in] <;> omega
    have hfar : Ints (g.alloc { cells := [.int .i64 1073741824], esz := 0 }) (.slice (some ⟨g.next, 0, none⟩) 1 1) [1073741824] := (Own.intsNew (h0 := g) (.refl _) kg [1073741824] (n := 1) (by omega) rfl).ints.1
    simp only [↓SP, SQ, SG, SL, ↓reduceIte, undef, iop, isShift, Nat.reduceEqDiff, reduceCtorEq, Nat.reduceAdd, Nat.reduceMul, Nat.reduceSub, Nat.reduceLT, Nat.reduceLeDiff, Int.reduceLT, Int.reduceLE, Int.reduceEq, Int.reduceGT, Int.reduceGE, Int.reduceNeg, Int.reduceToNat, ne_eq, if_true, if_false, List.map_cons, List.map_nil, Nat.le_refl, SM, r60_3, r60_4, r60_5,  ρ_1, ρ_2, ρ_21, ρ_22, q23, hi, e1, e2, f1, f2, f3, f4, List.size_toArray]
    refine (repeatInt_spec (kg.alloc _) hfar (n := k) hk4.1 (by omega)).imp ?_
    rintro vc g2 ⟨own, m2⟩
    have hcv := own.fit.cell
    have x2 : Ext g g2 := (Ext.alloc _ _).trans m2.1
    have kp : ∀ z o, z < g.next → rdA (g.alloc { cells := [.int .i64 1073741824], esz := 0 }) (.pointer (some ⟨z, o, none⟩)) 1 = rdA g2 (.pointer (some ⟨z, o, none⟩)) 1 := fun z o hz => (rdA_congr m2.1.base (m2.1.get z (by simp [Heap.alloc]; omega))).symm
    have kp1 := kp pp 0 (kg.lt f2)
    have kp2 := kp b 3 (kg.lt f4)
    have hn1 := m2.2.le
    have hb1 : g2.base ≤ g2.next + 1 := by omega
    have T3 := two_new m2.2 m2.1 (k := k) (by omega) own
    simp only [↓SP, SQ, SG, SL, ↓reduceIte, undef, iop, isShift, Nat.reduceEqDiff, reduceCtorEq, Nat.reduceAdd, Nat.reduceMul, Nat.reduceSub, Nat.reduceLT, Nat.reduceLeDiff, Int.reduceLT, Int.reduceLE, Int.reduceEq, Int.reduceGT, Int.reduceGE, Int.reduceNeg, Int.reduceToNat, ne_eq, if_true, if_false, List.map_cons, List.map_nil, Nat.le_refl, SM, ρ_1, ρ_2, ρ_21, ρ_22, q23, kp1, kp2, hcv, c5, c6, hn1, hb1, Int.le_refl, and_self, made_ints]
    have e3 := ext_put_new (g := g2.alloc { cells := (List.replicate k 0).map (.int .i64), esz := 0 }) (.refl _) (m2.2.alloc _) (o := { cells := [.slice none 0 0, .slice none 0 0], esz := 0 }) (o' := { cells := [vc, .slice (some ⟨g2.next, 0, none⟩) k k], esz := 0 })
    have hnx : (g2.alloc { cells := (List.replicate k 0).map (.int .i64), esz := 0 }).next = g2.next + 1 := rfl
    rw [hnx] at e3
    have x3 := ((Ext.alloc g2 { cells := (List.replicate k 0).map (.int .i64), esz := 0 }).trans e3.1)
    have hz3 : ∀ y, InBlk vc y ∨ InBlk (.slice (some ⟨g2.next, 0, none⟩) k k) y → y < g2.next + 1 := by
      rintro y (hy | hy)
      · have := own.reads.blk m2.2 (by decide) hy; omega
      · obtain ⟨o, m, n', c, ez, _⟩ := hy
        simp only [Value.slice.injEq, Option.some.injEq, Addr.mk.injEq] at ez; omega
    have hz4 : g2.next + 1 < (((g2.alloc { cells := (List.replicate k 0).map (.int .i64), esz := 0 }).alloc { cells := [.slice none 0 0, .slice none 0 0], esz := 0 }).put (g2.next + 1) { cells := [vc, .slice (some ⟨g2.next, 0, none⟩) k k], esz := 0 }).next := by simp [Heap.alloc, Heap.put]
    obtain ⟨_, k3, z3⟩ := e3
    generalize (((g2.alloc { cells := (List.replicate k 0).map (.int .i64), esz := 0 }).alloc { cells := [.slice none 0 0, .slice none 0 0], esz := 0 }).put (g2.next + 1) { cells := [vc, .slice (some ⟨g2.next, 0, none⟩) k k], esz := 0 }) = g3 at *
    generalize hvw : Value.slice (some ⟨g2.next, 0, none⟩) k k = vw at *
    generalize g2.next + 1 = z at *
    obtain ⟨pa, pb, g4, g5, s1, s2, s3, s4, T5, k5, ext5, b4, b5, n5, ge5⟩ := T3.set k3 hsk 0 1
    rw [(set_leaf k hsk).1, (set_leaf k hsk).2] at T5
    have hzz := ge5 z hz4 (fun hp => by have := hz3 z (.inl hp); omega) (fun hp => by have := hz3 z (.inr hp); omega)
    have kpz : rdA g3 (.pointer (some ⟨z, 1, none⟩)) 1 = rdA g4 (.pointer (some ⟨z, 1, none⟩)) 1 := (rdA_congr b4 hzz.1).symm
    have x03 : Ext g g3 := x2.trans x3
    have hbz : g3.base ≤ z := by rw [x03.base]; have := kg.le; have := x2.next; have := hz3; have := x2.base; omega
    have x5 : Ext g g5 := ext5 g x03 (by simp [Heap.alloc])
    have hbz5 : g5.base ≤ z := by rw [b5]; exact hbz
    have gz5 : g5.get z = some { cells := [vc, vw], esz := 0 } := by rw [hzz.2]; exact z3
    have R5 := T5.reads
    obtain ⟨v', g', hap, ol', ext', kg', _⟩ := OL.push k5 (Nat.le_trans xg.next x5.next) (ol.step x5 kg) (eTwo_mk R5.1 R5.2.2.1 R5.2.1 R5.2.2.2.1) (fun y hy z' hz' hp => by
      have h1 := ol.gblk_lt kg hp
      have h2 : (g.alloc { cells := [.int .i64 1073741824], esz := 0 }).next ≤ z' := by
        simp only [List.mem_cons, List.not_mem_nil, or_false] at hy
        rcases hy with rfl | rfl
        · exact T5.ge (.inl hz')
        · exact T5.ge (.inr hz')
      simp only [Heap.alloc] at h2
      omega) (bytes := 48) (by simp; omega) (by simp; omega)
    simp only [rowOf_eq] at hap
    simp only [↓SP, SQ, SG, SL, ↓reduceIte, undef, iop, isShift, Nat.reduceEqDiff, reduceCtorEq, Nat.reduceAdd, Nat.reduceMul, Nat.reduceSub, Nat.reduceLT, Nat.reduceLeDiff, Int.reduceLT, Int.reduceLE, Int.reduceEq, Int.reduceGT, Int.reduceGE, Int.reduceNeg, Int.reduceToNat, ne_eq, if_true, if_false, List.map_cons, List.map_nil, Nat.le_refl, SM, r60_6, r60_7, r60_8,  ρ_1, ρ_2, ρ_21, ρ_22, q23, hbz, z3, s1, s2, s3, s4, kpz, hbz5, gz5, hap, hwi, List.size_toArray]
    refine ⟨q - 1, by omega, ext' g0 (xg.trans x5) (Nat.le_refl _), kg', i + 1, rfl, by omega, ?_⟩
    rw [List.take_succ_eq_append_getElem hi, List.map_append, hs]
    exact ol'
  -- the joins
  simp only [↓SP, SQ, SG, SL, ↓reduceIte, undef, iop, isShift, Nat.reduceEqDiff, reduceCtorEq, Nat.reduceAdd, Nat.reduceMul, Nat.reduceSub, Nat.reduceLT, Nat.reduceLeDiff, Int.reduceLT, Int.reduceLE, Int.reduceEq, Int.reduceGT, Int.reduceGE, Int.reduceNeg, Int.reduceToNat, ne_eq, if_true, if_false, List.map_cons, List.map_nil, Nat.le_refl, SM, r60_3, r60_9, r60_10,  ρ_1, ρ_2, ρ_21, ρ_22, q23, hi, f1, f2, f3, f4, hjlen]
  have hii : leaves.take i = leaves := List.take_of_length_le (by omega)
  rw [hii] at ol
  refine wp_loopK Call.mono (fun q ρ g' => Ext g0 g' ∧ Ok g' ∧ ∃ (i : Nat) (acc : List Tab), ρ 58 = .int .i64 i ∧ i + q = js.length ∧ OL eTwo g0 g' (ρ 5) acc ∧ TP.At n k costs acc (js.drop i) ∧ nodesT k costs acc (js.drop i) = tabs k costs leaves js ∧ acc.length ≤ 8 + i) ?_ (m := js.length)
    ⟨xg, kg, 0, _, rfl, by omega, ol, start_at hl ht, rfl, by simp; omega⟩
  clear hq hi hii ol f1 f2 f3 f4 f5 f6 f7 f8
  rintro q2 ρ2 g2 ⟨xg2, kg2, i2, acc, r58, hq2, ol2, A, hnt, hacc⟩ keep
  have ρ2_1 : ρ2 1 = f := by rw [keep 1 (of_decide_eq_true rfl)]; first | rfl | assumption
  have ρ2_2 : ρ2 2 = .pointer (some ⟨pp, 0, none⟩) := by rw [keep 2 (of_decide_eq_true rfl)]; first | rfl | assumption
  have ρ2_9 : ρ2 9 = .func (.func 71) #[] #[.pointer (some ⟨pp, 0, none⟩)] := by rw [keep 9 (of_decide_eq_true rfl)]; first | rfl | assumption
  have ρ2_56 : ρ2 56 = j := by rw [keep 56 (of_decide_eq_true rfl)]; first | rfl | assumption
  have ρ2_57 : ρ2 57 = .int .i64 js.length := by rw [keep 57 (of_decide_eq_true rfl)]; first | rfl | assumption
  unfold b60_3
  obtain ⟨f1, f2, f3, f4, f5, f6, f7, f8⟩ := PF g2 xg2
  by_cases hi2 : i2 < js.length
  rotate_left
  · simp only [↓SP, SQ, SG, SL, ↓reduceIte, undef, iop, isShift, Nat.reduceEqDiff, reduceCtorEq, Nat.reduceAdd, Nat.reduceMul, Nat.reduceSub, Nat.reduceLT, Nat.reduceLeDiff, Int.reduceLT, Int.reduceLE, Int.reduceEq, Int.reduceGT, Int.reduceGE, Int.reduceNeg, Int.reduceToNat, ne_eq, if_true, if_false, List.map_cons, List.map_nil, Nat.le_refl, SM, r60_11, r60_24,  ρ2_1, ρ2_2, ρ2_9, ρ2_56, ρ2_57, r58, hi2]
    rw [List.drop_of_length_le (by omega)] at hnt
    simp only [nodesT] at hnt
    rw [← hnt]
    exact ⟨ol2.elder x0.next, x0.trans xg2⟩
  obtain ⟨a1, e1, e2, _⟩ := Reads.elemN (enc := pairCells) (sz := 2) (fun _ => rfl) f5 hi2
  rw [List.drop_eq_getElem_cons hi2] at A hnt
  generalize hab : js[i2] = ab at *
  obtain ⟨a, bb⟩ := ab
  obtain ⟨z1, z2, z3, z4, fa, fb, A'⟩ := A.step hn hc hk
  simp only [nodesT] at hnt
  have hwi : IntKind.wrap .i64 ((i2 : Int) + 1) = ((i2 + 1 : Nat) : Int) := by rw [wrap_in] <;> omega
  have hnx2 := kg2.le
  obtain ⟨y3, k3, gy3⟩ := ext_put_new (.refl g2) kg2 (o := { cells := [.int .i64 0, .int .i64 0], esz := 0 }) (o' := { cells := [.int .i64 a, .int .i64 bb], esz := 0 })
  have hy3 : g2.next < ((g2.alloc { cells := [.int .i64 0, .int .i64 0], esz := 0 }).put g2.next { cells := [.int .i64 a, .int .i64 bb], esz := 0 }).next := by simp [Heap.alloc, Heap.put]
  simp only [↓SP, SQ, SG, SL, ↓reduceIte, undef, iop, isShift, Nat.reduceEqDiff, reduceCtorEq, Nat.reduceAdd, Nat.reduceMul, Nat.reduceSub, Nat.reduceLT, Nat.reduceLeDiff, Int.reduceLT, Int.reduceLE, Int.reduceEq, Int.reduceGT, Int.reduceGE, Int.reduceNeg, Int.reduceToNat, ne_eq, if_true, if_false, List.map_cons, List.map_nil, Nat.le_refl, SM, r60_11, r60_12,  ρ2_1, ρ2_2, ρ2_9, ρ2_56, ρ2_57, r58, hi2, e1, e2, pairCells, hnx2, List.size_toArray]
  generalize ((g2.alloc { cells := [.int .i64 0, .int .i64 0], esz := 0 }).put g2.next { cells := [.int .i64 a, .int .i64 bb], esz := 0 }) = g3 at *
  obtain ⟨f1, f2, f3, f4, f5, f6, f7, f8⟩ := PF g3 (xg2.trans y3)
  have hfar : Ints (g3.alloc { cells := [.int .i64 1073741824], esz := 0 }) (.slice (some ⟨g3.next, 0, none⟩) 1 1) [1073741824] := (Own.intsNew (h0 := g3) (.refl _) k3 [1073741824] (n := 1) (by omega) rfl).ints.1
  simp only [↓SP, SQ, SG, SL, ↓reduceIte, undef, iop, isShift, Nat.reduceEqDiff, reduceCtorEq, Nat.reduceAdd, Nat.reduceMul, Nat.reduceSub, Nat.reduceLT, Nat.reduceLeDiff, Int.reduceLT, Int.reduceLE, Int.reduceEq, Int.reduceGT, Int.reduceGE, Int.reduceNeg, Int.reduceToNat, ne_eq, if_true, if_false, List.map_cons, List.map_nil, Nat.le_refl, SM, r60_13,  ρ2_1, ρ2_2, ρ2_9, ρ2_56, ρ2_57, r58, f1, f2, f3, f4, List.size_toArray]
  refine (repeatInt_spec (k3.alloc _) hfar (n := k) hk4.1 (by omega)).imp ?_
  rintro vc g4 ⟨own, m4⟩
  have hcv := own.fit.cell
  have x4 : Ext g3 g4 := (Ext.alloc _ _).trans m4.1
  have kp : ∀ z o, z < g3.next → rdA (g3.alloc { cells := [.int .i64 1073741824], esz := 0 }) (.pointer (some ⟨z, o, none⟩)) 1 = rdA g4 (.pointer (some ⟨z, o, none⟩)) 1 := fun z o hz => (rdA_congr m4.1.base (m4.1.get z (by simp [Heap.alloc]; omega))).symm
  have kp1 := kp pp 0 (k3.lt f2)
  have kp2 := kp b 3 (k3.lt f4)
  have hn1 := m4.2.le
  have hb1 : g4.base ≤ g4.next + 1 := by omega
  have T5 := two_new m4.2 m4.1 (k := k) (by omega) own
  simp only [↓SP, SQ, SG, SL, ↓reduceIte, undef, iop, isShift, Nat.reduceEqDiff, reduceCtorEq, Nat.reduceAdd, Nat.reduceMul, Nat.reduceSub, Nat.reduceLT, Nat.reduceLeDiff, Int.reduceLT, Int.reduceLE, Int.reduceEq, Int.reduceGT, Int.reduceGE, Int.reduceNeg, Int.reduceToNat, ne_eq, if_true, if_false, List.map_cons, List.map_nil, Nat.le_refl, SM, ρ2_1, ρ2_2, ρ2_9, ρ2_56, ρ2_57, r58, kp1, kp2, hcv, c5, c6, hn1, hb1, Int.le_refl, and_self, made_ints]
  have e3 := ext_put_new (g := g4.alloc { cells := (List.replicate k 0).map (.int .i64), esz := 0 }) (.refl _) (m4.2.alloc _) (o := { cells := [.slice none 0 0, .slice none 0 0], esz := 0 }) (o' := { cells := [vc, .slice (some ⟨g4.next, 0, none⟩) k k], esz := 0 })
  have hnx : (g4.alloc { cells := (List.replicate k 0).map (.int .i64), esz := 0 }).next = g4.next + 1 := rfl
  rw [hnx] at e3
  have x5 := ((Ext.alloc g4 { cells := (List.replicate k 0).map (.int .i64), esz := 0 }).trans e3.1)
  have hz3 : ∀ y, InBlk vc y ∨ InBlk (.slice (some ⟨g4.next, 0, none⟩) k k) y → y < g4.next + 1 := by
    rintro y (hy | hy)
    · have := own.reads.blk m4.2 (by decide) hy; omega
    · obtain ⟨o, m, n', c, ez, _⟩ := hy
      simp only [Value.slice.injEq, Option.some.injEq, Addr.mk.injEq] at ez; omega
  have hz4 : g4.next + 1 < (((g4.alloc { cells := (List.replicate k 0).map (.int .i64), esz := 0 }).alloc { cells := [.slice none 0 0, .slice none 0 0], esz := 0 }).put (g4.next + 1) { cells := [vc, .slice (some ⟨g4.next, 0, none⟩) k k], esz := 0 }).next := by simp [Heap.alloc, Heap.put]
  obtain ⟨_, k5, gz5⟩ := e3
  have hzb : g3.next ≤ g4.next + 1 := by have := x4.next; omega
  generalize (((g4.alloc { cells := (List.replicate k 0).map (.int .i64), esz := 0 }).alloc { cells := [.slice none 0 0, .slice none 0 0], esz := 0 }).put (g4.next + 1) { cells := [vc, .slice (some ⟨g4.next, 0, none⟩) k k], esz := 0 }) = g5 at *
  generalize hvw : Value.slice (some ⟨g4.next, 0, none⟩) k k = vw at *
  generalize g4.next + 1 = z at *
  have y5 : Ext g3 g5 := x4.trans x5
  obtain ⟨f1, f2, f3, f4, f5, f6, f7, f8⟩ := PF g5 ((xg2.trans y3).trans y5)
  have gy5 : g5.get g2.next = some { cells := [.int .i64 a, .int .i64 bb], esz := 0 } := by rw [y5.get _ hy3]; exact gy3
  simp only [↓SP, SQ, SG, SL, ↓reduceIte, undef, iop, isShift, Nat.reduceEqDiff, reduceCtorEq, Nat.reduceAdd, Nat.reduceMul, Nat.reduceSub, Nat.reduceLT, Nat.reduceLeDiff, Int.reduceLT, Int.reduceLE, Int.reduceEq, Int.reduceGT, Int.reduceGE, Int.reduceNeg, Int.reduceToNat, ne_eq, if_true, if_false, List.map_cons, List.map_nil, Nat.le_refl, SM, r60_14,  ρ2_1, ρ2_2, ρ2_9, ρ2_56, ρ2_57, r58, f1, f2, f3, f4]
  generalize hJ : joinT k costs (acc.getD a.toNat ([], [])) (acc.getD bb.toNat ([], [])) = J at *
  have hJl : J.1.length = k ∧ J.2.length = k := by rw [← hJ]; simp [joinT]
  have T5' : Two g3 g5 vc vw k (part k J.1 far 0) (part k J.2 0 0) := by
    rw [part_zero, part_zero]
    obtain ⟨hB, u1, u2, u3, u4⟩ := T5.out
    exact ⟨hB, u1.elder (by simp [Heap.alloc]), u2, Nat.le_trans (by simp [Heap.alloc]) u3, u4⟩
  clear T5
  have ol3 : OL eTwo g0 g3 (ρ2 5) acc := ol2.step y3 kg2
  refine wp_loopK Call.mono (fun q ρ g => Ext g3 g ∧ Ok g ∧ ∃ s : Nat, ρ 79 = .int .i64 s ∧ s + q = k ∧ Two g3 g vc vw k (part k J.1 far s) (part k J.2 0 s) ∧ g.get z = some { cells := [vc, vw], esz := 0 } ∧ z < g.next) ?_ (m := k) ⟨y5, k5, 0, rfl, by omega, T5', gz5, hz4⟩
  rintro q3 ρ3 g6 ⟨y6, k6, s, r79, hq3, T6, gz6, hz6⟩ keep3
  have ρ3_5 : ρ3 5 = ρ2 5 := by rw [keep3 5 (of_decide_eq_true rfl)]; rfl
  have keep := keep3
  have ρ3_1 : ρ3 1 = f := by rw [keep 1 (of_decide_eq_true rfl)]; first | rfl | assumption
  have ρ3_2 : ρ3 2 = .pointer (some ⟨pp, 0, none⟩) := by rw [keep 2 (of_decide_eq_true rfl)]; first | rfl | assumption
  have ρ3_9 : ρ3 9 = .func (.func 71) #[] #[.pointer (some ⟨pp, 0, none⟩)] := by rw [keep 9 (of_decide_eq_true rfl)]; first | rfl | assumption
  have ρ3_10 : ρ3 10 = .int .i64 i2 := by rw [keep 10 (of_decide_eq_true rfl)]; first | rfl | assumption
  have ρ3_11 : ρ3 11 = .pointer (some ⟨g2.next, 0, none⟩) := by rw [keep 11 (of_decide_eq_true rfl)]; first | rfl | assumption
  have ρ3_12 : ρ3 12 = .pointer (some ⟨z, 0, none⟩) := by rw [keep 12 (of_decide_eq_true rfl)]; first | rfl | assumption
  have ρ3_56 : ρ3 56 = j := by rw [keep 56 (of_decide_eq_true rfl)]; first | rfl | assumption
  have ρ3_57 : ρ3 57 = .int .i64 js.length := by rw [keep 57 (of_decide_eq_true rfl)]; first | rfl | assumption
  have ρ3_58 : ρ3 58 = .int .i64 i2 := by rw [keep 58 (of_decide_eq_true rfl)]; first | rfl | assumption
  have ρ3_78 : ρ3 78 = .int .i64 k := by rw [keep 78 (of_decide_eq_true rfl)]; first | rfl | assumption
  unfold b60_2
  obtain ⟨f1, f2, f3, f4, f5, f6, f7, f8⟩ := PF g6 ((xg2.trans y3).trans y6)
  have hbz6 : g6.base ≤ z := by rw [y6.base]; have := k3.le; omega
  have hby6 : g6.base ≤ g2.next := by rw [y6.base, y3.base]; exact hnx2
  by_cases hs : s < k
  rotate_left
  · -- the table is whole
    have hsk : s = k := by omega
    subst hsk
    rw [part_all _ _ _ hJl.1, part_all _ _ _ hJl.2] at T6
    have R6 := T6.reads
    obtain ⟨v', g', hap, ol', ext', kg', _⟩ := OL.push k6 (Nat.le_trans (xg2.trans y3).next y6.next) (ol3.step y6 k3) (eTwo_mk R6.1 R6.2.2.1 R6.2.1 R6.2.2.2.1) (fun y hy z' hz' hp => by
      have h1 := ol3.gblk_lt k3 hp
      have h2 : g3.next ≤ z' := by
        simp only [List.mem_cons, List.not_mem_nil, or_false] at hy
        rcases hy with rfl | rfl
        · exact T6.ge (.inl hz')
        · exact T6.ge (.inr hz')
      omega) (bytes := 48) (by omega) (by omega)
    simp only [rowOf_eq] at hap
    simp only [↓SP, SQ, SG, SL, ↓reduceIte, undef, iop, isShift, Nat.reduceEqDiff, reduceCtorEq, Nat.reduceAdd, Nat.reduceMul, Nat.reduceSub, Nat.reduceLT, Nat.reduceLeDiff, Int.reduceLT, Int.reduceLE, Int.reduceEq, Int.reduceGT, Int.reduceGE, Int.reduceNeg, Int.reduceToNat, ne_eq, if_true, if_false, List.map_cons, List.map_nil, Nat.le_refl, SM, r60_15, r60_22, r60_23,  ρ3_1, ρ3_2, ρ3_5, ρ3_9, ρ3_10, ρ3_11, ρ3_12, ρ3_56, ρ3_57, ρ3_58, ρ3_78, r79, Nat.lt_irrefl, hbz6, gz6, hap, hwi, List.size_toArray]
    exact ⟨q2 - 1, by omega, ext' g0 ((xg2.trans y3).trans y6) (Nat.le_refl _), kg', i2 + 1, acc ++ [J], rfl, by omega, ol', A', hnt, by simp; omega⟩
  have gy6 : g6.get g2.next = some { cells := [.int .i64 a, .int .i64 bb], esz := 0 } := by rw [y6.get _ hy3]; exact gy3
  have hws : IntKind.wrap .i64 ((s : Int) + 1) = ((s + 1 : Nat) : Int) := by rw [wrap_in] <;> omega
  obtain ⟨p8, e8, e9⟩ := f8.row (i := i2) (by omega)
  have hneg : fx[i2]'(by omega) < 0 := by have := hfx i2 hi2; rw [getD_in (by omega)] at this; exact this
  have hneg' : ¬ 0 ≤ fx[i2]'(by omega) := by omega
  have olr := (ol3.step y6 k3).reads
  obtain ⟨a0, rfl⟩ : ∃ a0 : Nat, a = a0 := ⟨a.toNat, by omega⟩
  obtain ⟨b0, rfl⟩ : ∃ b0 : Nat, bb = b0 := ⟨bb.toNat, by omega⟩
  simp only [Int.toNat_natCast] at fa fb hJ
  have ha0 : a0 < acc.length := by omega
  have hb0 : b0 < acc.length := by omega
  obtain ⟨pb1, po1, u1, i1, _, l1, v1, w1, rfl, ⟨n1, n2, _, _⟩, n3, n4, _, _⟩ := olr.elem ha0
  rw [getD_in ha0] at fa hJ
  rw [getD_in hb0] at fb hJ
  simp only [↓SP, SQ, SG, SL, ↓reduceIte, undef, iop, isShift, Nat.reduceEqDiff, reduceCtorEq, Nat.reduceAdd, Nat.reduceMul, Nat.reduceSub, Nat.reduceLT, Nat.reduceLeDiff, Int.reduceLT, Int.reduceLE, Int.reduceEq, Int.reduceGT, Int.reduceGE, Int.reduceNeg, Int.reduceToNat, ne_eq, if_true, if_false, List.map_cons, List.map_nil, Nat.le_refl, SM, r60_15, r60_16, r60_17, r60_18,  ρ3_1, ρ3_2, ρ3_5, ρ3_9, ρ3_10, ρ3_11, ρ3_12, ρ3_56, ρ3_57, ρ3_58, ρ3_78, r79, hs, e8, e9, hneg', hby6, gy6, i1, l1]
  refine (below_spec k6 f7 f1 f2 hc hk n1 n3 n2 n4 fa hs).imp ?_
  rintro v g7 ⟨rfl, m7⟩
  obtain ⟨h1, h2, h3, h4, h5, h6, h7, h8⟩ := PF g7 (((xg2.trans y3).trans y6).trans m7.1)
  have gy7 : g7.get g2.next = some { cells := [.int .i64 a0, .int .i64 b0], esz := 0 } := by rw [m7.1.get _ (k6.lt gy6)]; exact gy6
  have hby7 : g7.base ≤ g2.next := by rw [m7.1.base]; exact hby6
  obtain ⟨pb2, po2, u2, i2', _, l2, v2, w2, rfl, ⟨n5, n6, _, _⟩, n7, n8, _, _⟩ := (olr.ext m7.1 k6).elem hb0
  simp only [↓SP, SQ, SG, SL, ↓reduceIte, undef, iop, isShift, Nat.reduceEqDiff, reduceCtorEq, Nat.reduceAdd, Nat.reduceMul, Nat.reduceSub, Nat.reduceLT, Nat.reduceLeDiff, Int.reduceLT, Int.reduceLE, Int.reduceEq, Int.reduceGT, Int.reduceGE, Int.reduceNeg, Int.reduceToNat, ne_eq, if_true, if_false, List.map_cons, List.map_nil, Nat.le_refl, SM, r60_19,  ρ3_1, ρ3_2, ρ3_5, ρ3_9, ρ3_10, ρ3_11, ρ3_12, ρ3_56, ρ3_57, ρ3_58, ρ3_78, r79, hby7, gy7, i2', l2, List.getElem?_toArray]
  refine (below_spec m7.2 h7 h1 h2 hc hk n5 n7 n6 n8 fb hs).imp ?_
  rintro v g8 ⟨rfl, m8⟩
  have x68 := m7.1.trans m8.1
  have T8 := T6.step x68 k6
  have gz8 : g8.get z = some { cells := [vc, vw], esz := 0 } := by rw [x68.get _ hz6]; exact gz6
  have hz8 : z < g8.next := by have := x68.next; omega
  have hbz8 : g8.base ≤ z := by rw [x68.base]; exact hbz6
  have hrow := (costs_row hc (s := s) (by omega)).2
  rw [hk] at hrow
  have B1 := below_all fa (by decide) (by decide) (by decide) hrow
  have B2 := below_all fb (by decide) (by decide) (by decide) hrow
  have hJ1 : J.1.getD s 0 = (belowN acc[a0] (costs.getD s []) k).1 + (belowN acc[b0] (costs.getD s []) k).1 := by rw [← hJ]; simp only [joinT, getD_range_map _ _ _ _ hs]
  have hJ2 : J.2.getD s 0 = (belowN acc[a0] (costs.getD s []) k).2 * (belowN acc[b0] (costs.getD s []) k).2 := by rw [← hJ]; simp only [joinT, getD_range_map _ _ _ _ hs]
  generalize belowN acc[a0] (costs.getD s []) k = r1 at *
  generalize belowN acc[b0] (costs.getD s []) k = r2 at *
  have hkw : (k : Int) * 268435456 ≤ 4 * 268435456 := Int.mul_le_mul_of_nonneg_right (by omega) (by decide)
  have hmul : 0 ≤ r1.2 * r2.2 ∧ r1.2 * r2.2 ≤ 1073741824 * 1073741824 := ⟨Int.mul_nonneg (by omega) (by omega), Int.mul_le_mul (by omega) (by omega) (by omega) (by decide)⟩
  have w1' : IntKind.wrap .i64 (r1.1 + r2.1) = J.1.getD s 0 := by rw [hJ1, wrap_in] <;> omega
  have w2' : IntKind.wrap .i64 (r1.2 * r2.2) = J.2.getD s 0 := by rw [hJ2, wrap_in] <;> omega
  obtain ⟨pa, pb, g9, g10, s1, s2, s3, s4, T10, k10, ext10, b9, b10, n10, ge10⟩ := T8.set m8.2 hs (J.1.getD s 0) (J.2.getD s 0)
  rw [part_set _ _ _ hs, part_set _ _ _ hs] at T10
  have hnz : ¬ InBlk vc z ∧ ¬ InBlk vw z := ⟨fun hp => by have := hz3 z (.inl hp); omega, fun hp => by have := hz3 z (.inr hp); omega⟩
  have hzz := ge10 z hz8 hnz.1 hnz.2
  have kpz : rdA g8 (.pointer (some ⟨z, 1, none⟩)) 1 = rdA g9 (.pointer (some ⟨z, 1, none⟩)) 1 := (rdA_congr b9 hzz.1).symm
  simp only [↓SP, SQ, SG, SL, ↓reduceIte, undef, iop, isShift, Nat.reduceEqDiff, reduceCtorEq, Nat.reduceAdd, Nat.reduceMul, Nat.reduceSub, Nat.reduceLT, Nat.reduceLeDiff, Int.reduceLT, Int.reduceLE, Int.reduceEq, Int.reduceGT, Int.reduceGE, Int.reduceNeg, Int.reduceToNat, ne_eq, if_true, if_false, List.map_cons, List.map_nil, Nat.le_refl, SM, r60_20, r60_21,  ρ3_1, ρ3_2, ρ3_5, ρ3_9, ρ3_10, ρ3_11, ρ3_12, ρ3_56, ρ3_57, ρ3_58, ρ3_78, r79, hbz8, gz8, w1', w2', s1, s2, s3, s4, kpz, hws, List.getElem?_toArray]
  exact ⟨q3 - 1, by omega, ext10 g3 (y6.trans x68) (Nat.le_refl _), k10, s + 1, rfl, by omega, T10, by rw [hzz.2]; exact gz8, by omega⟩

end Go.AM.K
