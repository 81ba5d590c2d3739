/- slices.Repeat of one scout; New. -/
import Derived.Test.YtpbaaidmgfbdbaaQ8
set_option linter.unusedVariables false
set_option linter.unusedSimpArgs false
set_option maxRecDepth 20000
namespace Go.AM.Q
open Go.AM Go.AM.Fn
attribute [local congr] ite_cond

theorem write_all {h : Heap} {b o : Nat} {vs : List Value} {blk : Blk} (hb : h.base ≤ b) (hg : h.get b = some blk) (hn : o + vs.length ≤ blk.cells.length) (h1 : Ones vs) : h.write b o vs = some (h.put b { blk with cells := blk.cells.take o ++ vs ++ blk.cells.drop (o + vs.length) }) := by
  unfold Heap.write
  simp only [hg]
  rw [if_pos ⟨hb, hn, h1⟩]

theorem ones_reps {x : List Value} (h : Ones x) (k : Nat) : Ones (reps k x) := by
  induction k with
  | zero => rw [reps_zero, ones_nil]; trivial
  | succ k ih =>
    rw [reps_succ]; unfold Ones at *
    rw [List.all_append, h, ih]; rfl

/-- A copy within a block of copies. -/
theorem copy_half {h : Heap} {b : Nat} {k n e c1 c2 : Nat} {x z : List Value} (hb : h.base ≤ b) (hg : h.get b = some { cells := half k n x z, esz := 0 }) (hx : x.length = e) (hz : z.length = e) (h1 : Ones x) (hk : 0 < k) (hkn : k < n) :
    copyA h e (.slice (some ⟨b, k * e, none⟩) (n - k) c1) (.slice (some ⟨b, 0, none⟩) k c2) = some (.int .i64 (min k (n - k) : Nat), h.put b { cells := half (k + min k (n - k)) n x z, esz := 0 }) := by
  subst hx
  have hm : min k (n - k) ≠ 0 := by omega
  have hle : min k (n - k) ≤ k := by omega
  have hr : h.read b 0 (min k (n - k) * x.length) = some (reps (min k (n - k)) x) := by
    rw [read_own hb hg (by rw [half_length (by omega) hz]; have := Nat.mul_le_mul_right x.length (show min k (n - k) ≤ n by omega); omega)]
    simp only [List.drop_zero]
    rw [half_read hle]
  have hw := write_all (o := k * x.length) hb hg (vs := reps (min k (n - k)) x) (by
    rw [reps_length, half_length (by omega) hz, ← Nat.add_mul]; exact Nat.mul_le_mul_right _ (by omega)) (ones_reps h1 _)
  rw [reps_length] at hw
  rw [half_write (by omega) hz] at hw
  have hmm : Nat.min k (n - k) = min k (n - k) := rfl
  simp only [copyA, lenA, srcA, hmm, hm, if_false, hr, hw]

theorem copy_first {h : Heap} {b : Nat} {n e c1 : Nat} {l : Value} {x z : List Value} (hb : h.base ≤ b) (hg : h.get b = some { cells := half 0 n x z, esz := 0 }) (hl : Reads h l 1 e x) (hz : z.length = e) (h1 : Ones x) (hn : 1 ≤ n) :
    copyA h e (.slice (some ⟨b, 0, none⟩) n c1) l = some (.int .i64 1, h.put b { cells := half 1 n x z, esz := 0 }) := by
  have hx : x.length = e := by have := hl.size; omega
  subst hx
  obtain ⟨bl, ol, ml, cl, rfl, hr⟩ := hl.at_ (by omega)
  have hmm : Nat.min 1 n = 1 := Nat.min_eq_left hn
  have hw := write_all (o := 0) hb hg (vs := x) (by rw [half_length (by omega) hz]; have := Nat.mul_le_mul_right x.length hn; omega) h1
  have e1 := half_write (k := 0) (m := 1) (N := n) (by omega) (x := x) (z := z) hz
  simp only [Nat.zero_mul, Nat.one_mul, Nat.zero_add, show reps 1 x = x from by simp [reps_succ, reps_zero]] at e1
  simp only [Nat.zero_add] at hw
  rw [e1] at hw
  simp only [copyA, lenA, srcA, hmm, hr, show ¬ (1 = 0) from by omega, if_false, hw]
  rfl

theorem sliceA_lo {esz b o len k : Nat} {ρ : Nat → Value} {t : Nat} (ht : ρ t = .int .i64 k) (hk : k < len) : sliceA esz (.slice (some ⟨b, o, none⟩) len len) (some (.tmp t)) none none ρ = some (.slice (some ⟨b, o + k * esz, none⟩) (len - k) (len - k)) := by
  have h1 : ¬ len = k := by omega
  simp [sliceA, bndA, ev, ht, Nat.le_of_lt hk, h1]
theorem sliceA_hi {esz b o len cap k : Nat} {ρ : Nat → Value} {t : Nat} (ht : ρ t = .int .i64 k) (hk : k ≤ cap) : sliceA esz (.slice (some ⟨b, o, none⟩) len cap) none (some (.tmp t)) none ρ = some (.slice (some ⟨b, o, none⟩) k cap) := by
  simp [sliceA, bndA, ev, ht, hk]

theorem repeat_spec {h : Heap} (k : Ok h) {l : Value} {x : List Value} (hx : x.length = 3) (h1 : Ones x) (hl : Reads h l 1 3 x) {n : Nat} (hn0 : 1 ≤ n) (hn : n ≤ 60000) :
    Call T 22 [l, .int .i64 n] h (fun v h' => v = .slice (some ⟨h.next, 0, none⟩) n n ∧ h'.get h.next = some { cells := reps n x, esz := 0 } ∧ More h h') := by
  refine (Call.grows (R := fun v h' => v = .slice (some ⟨h.next, 0, none⟩) n n ∧ h'.get h.next = some { cells := reps n x, esz := 0 } ∧ Ext h h') ?_).imp (fun v h' ⟨⟨a, b, c⟩, g⟩ => ⟨a, b, c, k.grows g⟩)
  refine Call.of (fn := f22) rfl (by simp [f22]) ?_
  unfold f22
  have hlen := hl.len
  have c1 : IntKind.wrap .u64 ((1 : Nat) : Int) = ((1 : Nat) : Int) := wrap_u (by omega)
  have c2 : IntKind.wrap .u64 (n : Int) = (n : Int) := wrap_u (by omega)
  have hn0' : ¬ (n : Int) < 0 := by omega
  simp only [bnd_none, bnd_tmp', bnd_const, enter_zero, enter_succ, undef, ↓wpC_seq, ↓wpC_region, ↓wpC_cond, ↓wpC_block, ↓wpC_skip, ↓wpC_exit, ↓wpC_ret, ↓seqP_normal, ↓seqP_exit, ↓seqP_ret, ↓blockP_normal, ↓blockP_exit, ↓blockP_ret, ↓endP_normal, ↓endP_ret, ↓wpOps_nil, ↓wpOps_p, ↓wpOps_l, ↓wpOps_a, ↓wpOps_e, ↓wpOps_c, ↓wpOps_i, ↓wpOps_g, ↓Rest_apply, ↓pop_eqi, ↓pop_tas, ↓pop_iaddr, ↓pop_len, ↓pop_aaddr, aaddrA_ptr, lenA_slice, ↓pop_mov, ↓pop_pick, ↓pop_bin, ↓pop_eqv, ↓pop_not, ↓pop_neg, ↓pop_conv, ↓pop_ext, ↓pop_nilc, ↓pop_faddr, ↓pop_slice, ↓pop_mn, ↓pop_mx, ↓pop_mkif, ↓pop_mkfn, ↓eop_store, ↓eop_append, ↓eop_copy, ↓eop_clear, ↓alop_var, ↓alop_box, ↓alop_bslice, ↓alop_mslice, ↓pop_build, fillA_nil, fillA_cons, ptrTo_eq, rowOf_eq, made_zero, made_one, made_two, made_three, made_pair, cells_int, cells_bool, cells_ptr, cells_slice, cells_iface, cells_niliface, cells_agg, cells_agg', one_int, one_bool, one_ptr, one_slice, one_iface, one_niliface, ↓ev_tmp, ↓ev_const, ↓ev_func, ↓ev_global, ↓put_get, ↓put_none, ↓want_some, ↓keepOk_nil, ↓keepOk_cons, ↓resList_nil, ↓resList_cons, ↓resA_tmp, ↓resA_cell, oneOrTuple_one, oneOrTuple_two, iop, decide_eq_true_eq, Bool.not_eq_true', decide_eq_false_iff_not, bne_iff_ne, beq_iff_eq, beq_true, beq_false, ne_eq, not_true_eq_false, not_false_eq_true,  if_true, if_false, ↓reduceIte, Bool.false_eq_true, Bool.not_true, Bool.not_false, Nat.reduceEqDiff, beq_self_eq_true, bne_self_eq_false, reduceCtorEq, Option.some.injEq, true_and, and_true, false_and, and_false, false_or, true_or, or_true, isShift, or_false, Int.ofNat_lt, Int.ofNat_le, Int.natCast_nonneg, Int.toNat_natCast, decide_true, decide_false, Nat.reduceAdd, Nat.reduceMul, Nat.reduceSub, Nat.reduceLT, Nat.reduceLeDiff, Nat.zero_add, Nat.add_zero, Nat.mul_one, List.length_cons, List.length_nil, List.take_zero, List.drop_zero, List.take_succ_cons, List.drop_succ_cons, List.take_nil, List.drop_nil, List.getElem?_cons_zero, List.getElem?_cons_succ, List.set_cons_zero, List.set_cons_succ, Int.reduceLT, Int.reduceLE, Int.reduceEq, Int.reduceGT, Int.reduceGE, Int.reduceNeg, Int.reduceToNat, Nat.zero_mul, List.map_cons, List.map_nil, List.nil_append, List.append_nil, List.cons_append, List.toList_toArray, ones_nil, ones_cons, Nat.le_refl, load1, loadN, store1, storeN, Heap.get_alloc, Heap.get_put, Heap.next_alloc, Heap.next_put, Heap.base_alloc, Heap.base_put, r22_0, r22_1, r22_3, hlen, c1, c2, hn0']
  refine (mul_spec (x := 1) (y := n) (by omega) (by omega)).imp ?_
  rintro v h' ⟨rfl, rfl⟩
  have c3 : IntKind.wrap .i64 ((1 * n : Nat) : Int) = (n : Int) := by rw [Nat.one_mul, wrap_in] <;> omega
  have c4 : ¬ ((1 * n : Nat) : Int) > 9223372036854775807 := by omega
  have c5 : ((32 : Nat) : Int) * (n : Int) ≤ 281474976710656 := by omega
  have c6 : (n : Int) ≤ 9223372036854775807 := by omega
  have hmd : made [.bool false, .int .i64 0, .nilIface] (n * 3) = half 0 n x [.bool false, .int .i64 0, .nilIface] := by
    rw [show half 0 n x [.bool false, .int .i64 0, .nilIface] = reps n [.bool false, .int .i64 0, .nilIface] from by simp [half, reps_zero]]
    exact made_reps _ (by simp) n
  simp only [bnd_none, bnd_tmp', bnd_const, enter_zero, enter_succ, undef, ↓wpC_seq, ↓wpC_region, ↓wpC_cond, ↓wpC_block, ↓wpC_skip, ↓wpC_exit, ↓wpC_ret, ↓seqP_normal, ↓seqP_exit, ↓seqP_ret, ↓blockP_normal, ↓blockP_exit, ↓blockP_ret, ↓endP_normal, ↓endP_ret, ↓wpOps_nil, ↓wpOps_p, ↓wpOps_l, ↓wpOps_a, ↓wpOps_e, ↓wpOps_c, ↓wpOps_i, ↓wpOps_g, ↓Rest_apply, ↓pop_eqi, ↓pop_tas, ↓pop_iaddr, ↓pop_len, ↓pop_aaddr, aaddrA_ptr, lenA_slice, ↓pop_mov, ↓pop_pick, ↓pop_bin, ↓pop_eqv, ↓pop_not, ↓pop_neg, ↓pop_conv, ↓pop_ext, ↓pop_nilc, ↓pop_faddr, ↓pop_slice, ↓pop_mn, ↓pop_mx, ↓pop_mkif, ↓pop_mkfn, ↓eop_store, ↓eop_append, ↓eop_copy, ↓eop_clear, ↓alop_var, ↓alop_box, ↓alop_bslice, ↓alop_mslice, ↓pop_build, fillA_nil, fillA_cons, ptrTo_eq, rowOf_eq, made_zero, made_one, made_two, made_three, made_pair, cells_int, cells_bool, cells_ptr, cells_slice, cells_iface, cells_niliface, cells_agg, cells_agg', one_int, one_bool, one_ptr, one_slice, one_iface, one_niliface, ↓ev_tmp, ↓ev_const, ↓ev_func, ↓ev_global, ↓put_get, ↓put_none, ↓want_some, ↓keepOk_nil, ↓keepOk_cons, ↓resList_nil, ↓resList_cons, ↓resA_tmp, ↓resA_cell, oneOrTuple_one, oneOrTuple_two, iop, decide_eq_true_eq, Bool.not_eq_true', decide_eq_false_iff_not, bne_iff_ne, beq_iff_eq, beq_true, beq_false, ne_eq, not_true_eq_false, not_false_eq_true,  if_true, if_false, ↓reduceIte, Bool.false_eq_true, Bool.not_true, Bool.not_false, Nat.reduceEqDiff, beq_self_eq_true, bne_self_eq_false, reduceCtorEq, Option.some.injEq, true_and, and_true, false_and, and_false, false_or, true_or, or_true, isShift, or_false, Int.ofNat_lt, Int.ofNat_le, Int.natCast_nonneg, Int.toNat_natCast, decide_true, decide_false, Nat.reduceAdd, Nat.reduceMul, Nat.reduceSub, Nat.reduceLT, Nat.reduceLeDiff, Nat.zero_add, Nat.add_zero, Nat.mul_one, List.length_cons, List.length_nil, List.take_zero, List.drop_zero, List.take_succ_cons, List.drop_succ_cons, List.take_nil, List.drop_nil, List.getElem?_cons_zero, List.getElem?_cons_succ, List.set_cons_zero, List.set_cons_succ, Int.reduceLT, Int.reduceLE, Int.reduceEq, Int.reduceGT, Int.reduceGE, Int.reduceNeg, Int.reduceToNat, Nat.zero_mul, List.map_cons, List.map_nil, List.nil_append, List.append_nil, List.cons_append, List.toList_toArray, ones_nil, ones_cons, Nat.le_refl, load1, loadN, store1, storeN, Heap.get_alloc, Heap.get_put, Heap.next_alloc, Heap.next_put, Heap.base_alloc, Heap.base_put, r22_4, r22_6, r22_7, c3, c4, c5, c6, hmd, List.length_cons, List.length_nil]
  have hg0 : (h'.alloc { cells := half 0 n x [.bool false, .int .i64 0, .nilIface], esz := 0 }).get h'.next = some { cells := half 0 n x [.bool false, .int .i64 0, .nilIface], esz := 0 } := by simp [Heap.alloc]
  have x1 : Ext h' ((h'.alloc { cells := half 0 n x [.bool false, .int .i64 0, .nilIface], esz := 0 }).put h'.next { cells := half 1 n x [.bool false, .int .i64 0, .nilIface], esz := 0 }) := (Ext.alloc _ _).put (Nat.le_refl _) _
  have k1 : Ok ((h'.alloc { cells := half 0 n x [.bool false, .int .i64 0, .nilIface], esz := 0 }).put h'.next { cells := half 1 n x [.bool false, .int .i64 0, .nilIface], esz := 0 }) := (k.alloc _).put (by simp [Heap.alloc]) _
  have hcp := copy_first (c1 := n) (show (h'.alloc { cells := half 0 n x [.bool false, .int .i64 0, .nilIface], esz := 0 }).base ≤ h'.next from k.le) hg0 (hl.ext (.alloc _ _) k) rfl h1 hn0
  simp only [bnd_none, bnd_tmp', bnd_const, enter_zero, enter_succ, undef, ↓wpC_seq, ↓wpC_region, ↓wpC_cond, ↓wpC_block, ↓wpC_skip, ↓wpC_exit, ↓wpC_ret, ↓seqP_normal, ↓seqP_exit, ↓seqP_ret, ↓blockP_normal, ↓blockP_exit, ↓blockP_ret, ↓endP_normal, ↓endP_ret, ↓wpOps_nil, ↓wpOps_p, ↓wpOps_l, ↓wpOps_a, ↓wpOps_e, ↓wpOps_c, ↓wpOps_i, ↓wpOps_g, ↓Rest_apply, ↓pop_eqi, ↓pop_tas, ↓pop_iaddr, ↓pop_len, ↓pop_aaddr, aaddrA_ptr, lenA_slice, ↓pop_mov, ↓pop_pick, ↓pop_bin, ↓pop_eqv, ↓pop_not, ↓pop_neg, ↓pop_conv, ↓pop_ext, ↓pop_nilc, ↓pop_faddr, ↓pop_slice, ↓pop_mn, ↓pop_mx, ↓pop_mkif, ↓pop_mkfn, ↓eop_store, ↓eop_append, ↓eop_copy, ↓eop_clear, ↓alop_var, ↓alop_box, ↓alop_bslice, ↓alop_mslice, ↓pop_build, fillA_nil, fillA_cons, ptrTo_eq, rowOf_eq, made_zero, made_one, made_two, made_three, made_pair, cells_int, cells_bool, cells_ptr, cells_slice, cells_iface, cells_niliface, cells_agg, cells_agg', one_int, one_bool, one_ptr, one_slice, one_iface, one_niliface, ↓ev_tmp, ↓ev_const, ↓ev_func, ↓ev_global, ↓put_get, ↓put_none, ↓want_some, ↓keepOk_nil, ↓keepOk_cons, ↓resList_nil, ↓resList_cons, ↓resA_tmp, ↓resA_cell, oneOrTuple_one, oneOrTuple_two, iop, decide_eq_true_eq, Bool.not_eq_true', decide_eq_false_iff_not, bne_iff_ne, beq_iff_eq, beq_true, beq_false, ne_eq, not_true_eq_false, not_false_eq_true,  if_true, if_false, ↓reduceIte, Bool.false_eq_true, Bool.not_true, Bool.not_false, Nat.reduceEqDiff, beq_self_eq_true, bne_self_eq_false, reduceCtorEq, Option.some.injEq, true_and, and_true, false_and, and_false, false_or, true_or, or_true, isShift, or_false, Int.ofNat_lt, Int.ofNat_le, Int.natCast_nonneg, Int.toNat_natCast, decide_true, decide_false, Nat.reduceAdd, Nat.reduceMul, Nat.reduceSub, Nat.reduceLT, Nat.reduceLeDiff, Nat.zero_add, Nat.add_zero, Nat.mul_one, List.length_cons, List.length_nil, List.take_zero, List.drop_zero, List.take_succ_cons, List.drop_succ_cons, List.take_nil, List.drop_nil, List.getElem?_cons_zero, List.getElem?_cons_succ, List.set_cons_zero, List.set_cons_succ, Int.reduceLT, Int.reduceLE, Int.reduceEq, Int.reduceGT, Int.reduceGE, Int.reduceNeg, Int.reduceToNat, Nat.zero_mul, List.map_cons, List.map_nil, List.nil_append, List.append_nil, List.cons_append, List.toList_toArray, ones_nil, ones_cons, Nat.le_refl, load1, loadN, store1, storeN, Heap.get_alloc, Heap.get_put, Heap.next_alloc, Heap.next_put, Heap.base_alloc, Heap.base_put, hcp]
  refine wp_loop Call.mono (fun q ρ g => ρ 7 = .slice (some ⟨h'.next, 0, none⟩) n n ∧ ∃ i : Nat, ρ 8 = .int .i64 i ∧ i + q = n ∧ 1 ≤ i ∧ g.get h'.next = some { cells := half i n x [.bool false, .int .i64 0, .nilIface], esz := 0 } ∧ Ext h' g ∧ h'.next < g.next ∧ Ok g) ?_ (m := n - 1) ⟨rfl, 1, rfl, by omega, by omega, by simp [Heap.put], x1, by simp [Heap.put, Heap.alloc], k1⟩
  rintro q ρ g ⟨q7, i, q8, hq, hi1, hg, xg, hng, kg⟩
  unfold b22_1
  by_cases hi : i < n
  · have hcc := copy_half (c1 := n - i) (c2 := n) (show g.base ≤ h'.next by rw [xg.base]; exact k.le) hg hx rfl h1 (by omega) hi
    have hw : IntKind.wrap .i64 ((i : Int) + ((min i (n - i) : Nat) : Int)) = ((i + min i (n - i) : Nat) : Int) := by rw [wrap_in] <;> omega
    have s1 : ∀ ρ' : Nat → Value, ρ' 40 = .int .i64 i → sliceA 3 (.slice (some ⟨h'.next, 0, none⟩) n n) (some (.tmp 40)) none none ρ' = some (.slice (some ⟨h'.next, i * 3, none⟩) (n - i) (n - i)) := fun ρ' hr => by rw [sliceA_lo hr hi]; simp
    have s2 : ∀ ρ' : Nat → Value, ρ' 43 = .int .i64 i → sliceA 3 (.slice (some ⟨h'.next, 0, none⟩) n n) none (some (.tmp 43)) none ρ' = some (.slice (some ⟨h'.next, 0, none⟩) i n) := fun ρ' hr => sliceA_hi hr (Nat.le_of_lt hi)
    simp only [bnd_none, bnd_tmp', bnd_const, enter_zero, enter_succ, undef, ↓wpC_seq, ↓wpC_region, ↓wpC_cond, ↓wpC_block, ↓wpC_skip, ↓wpC_exit, ↓wpC_ret, ↓seqP_normal, ↓seqP_exit, ↓seqP_ret, ↓blockP_normal, ↓blockP_exit, ↓blockP_ret, ↓endP_normal, ↓endP_ret, ↓wpOps_nil, ↓wpOps_p, ↓wpOps_l, ↓wpOps_a, ↓wpOps_e, ↓wpOps_c, ↓wpOps_i, ↓wpOps_g, ↓Rest_apply, ↓pop_eqi, ↓pop_tas, ↓pop_iaddr, ↓pop_len, ↓pop_aaddr, aaddrA_ptr, lenA_slice, ↓pop_mov, ↓pop_pick, ↓pop_bin, ↓pop_eqv, ↓pop_not, ↓pop_neg, ↓pop_conv, ↓pop_ext, ↓pop_nilc, ↓pop_faddr, ↓pop_slice, ↓pop_mn, ↓pop_mx, ↓pop_mkif, ↓pop_mkfn, ↓eop_store, ↓eop_append, ↓eop_copy, ↓eop_clear, ↓alop_var, ↓alop_box, ↓alop_bslice, ↓alop_mslice, ↓pop_build, fillA_nil, fillA_cons, ptrTo_eq, rowOf_eq, made_zero, made_one, made_two, made_three, made_pair, cells_int, cells_bool, cells_ptr, cells_slice, cells_iface, cells_niliface, cells_agg, cells_agg', one_int, one_bool, one_ptr, one_slice, one_iface, one_niliface, ↓ev_tmp, ↓ev_const, ↓ev_func, ↓ev_global, ↓put_get, ↓put_none, ↓want_some, ↓keepOk_nil, ↓keepOk_cons, ↓resList_nil, ↓resList_cons, ↓resA_tmp, ↓resA_cell, oneOrTuple_one, oneOrTuple_two, iop, decide_eq_true_eq, Bool.not_eq_true', decide_eq_false_iff_not, bne_iff_ne, beq_iff_eq, beq_true, beq_false, ne_eq, not_true_eq_false, not_false_eq_true,  if_true, if_false, ↓reduceIte, Bool.false_eq_true, Bool.not_true, Bool.not_false, Nat.reduceEqDiff, beq_self_eq_true, bne_self_eq_false, reduceCtorEq, Option.some.injEq, true_and, and_true, false_and, and_false, false_or, true_or, or_true, isShift, or_false, Int.ofNat_lt, Int.ofNat_le, Int.natCast_nonneg, Int.toNat_natCast, decide_true, decide_false, Nat.reduceAdd, Nat.reduceMul, Nat.reduceSub, Nat.reduceLT, Nat.reduceLeDiff, Nat.zero_add, Nat.add_zero, Nat.mul_one, List.length_cons, List.length_nil, List.take_zero, List.drop_zero, List.take_succ_cons, List.drop_succ_cons, List.take_nil, List.drop_nil, List.getElem?_cons_zero, List.getElem?_cons_succ, List.set_cons_zero, List.set_cons_succ, Int.reduceLT, Int.reduceLE, Int.reduceEq, Int.reduceGT, Int.reduceGE, Int.reduceNeg, Int.reduceToNat, Nat.zero_mul, List.map_cons, List.map_nil, List.nil_append, List.append_nil, List.cons_append, List.toList_toArray, ones_nil, ones_cons, Nat.le_refl, load1, loadN, store1, storeN, Heap.get_alloc, Heap.get_put, Heap.next_alloc, Heap.next_put, Heap.base_alloc, Heap.base_put, r22_8, r22_9, q7, q8, hi, s1, s2, hcc, hw]
    refine ⟨q - min i (n - i), by omega, _, rfl, by omega, by omega, by simp [Heap.put], xg.put (Nat.le_refl _) _, hng, kg.put hng _⟩
  · have hii : i = n := by omega
    subst hii
    simp only [bnd_none, bnd_tmp', bnd_const, enter_zero, enter_succ, undef, ↓wpC_seq, ↓wpC_region, ↓wpC_cond, ↓wpC_block, ↓wpC_skip, ↓wpC_exit, ↓wpC_ret, ↓seqP_normal, ↓seqP_exit, ↓seqP_ret, ↓blockP_normal, ↓blockP_exit, ↓blockP_ret, ↓endP_normal, ↓endP_ret, ↓wpOps_nil, ↓wpOps_p, ↓wpOps_l, ↓wpOps_a, ↓wpOps_e, ↓wpOps_c, ↓wpOps_i, ↓wpOps_g, ↓Rest_apply, ↓pop_eqi, ↓pop_tas, ↓pop_iaddr, ↓pop_len, ↓pop_aaddr, aaddrA_ptr, lenA_slice, ↓pop_mov, ↓pop_pick, ↓pop_bin, ↓pop_eqv, ↓pop_not, ↓pop_neg, ↓pop_conv, ↓pop_ext, ↓pop_nilc, ↓pop_faddr, ↓pop_slice, ↓pop_mn, ↓pop_mx, ↓pop_mkif, ↓pop_mkfn, ↓eop_store, ↓eop_append, ↓eop_copy, ↓eop_clear, ↓alop_var, ↓alop_box, ↓alop_bslice, ↓alop_mslice, ↓pop_build, fillA_nil, fillA_cons, ptrTo_eq, rowOf_eq, made_zero, made_one, made_two, made_three, made_pair, cells_int, cells_bool, cells_ptr, cells_slice, cells_iface, cells_niliface, cells_agg, cells_agg', one_int, one_bool, one_ptr, one_slice, one_iface, one_niliface, ↓ev_tmp, ↓ev_const, ↓ev_func, ↓ev_global, ↓put_get, ↓put_none, ↓want_some, ↓keepOk_nil, ↓keepOk_cons, ↓resList_nil, ↓resList_cons, ↓resA_tmp, ↓resA_cell, oneOrTuple_one, oneOrTuple_two, iop, decide_eq_true_eq, Bool.not_eq_true', decide_eq_false_iff_not, bne_iff_ne, beq_iff_eq, beq_true, beq_false, ne_eq, not_true_eq_false, not_false_eq_true,  if_true, if_false, ↓reduceIte, Bool.false_eq_true, Bool.not_true, Bool.not_false, Nat.reduceEqDiff, beq_self_eq_true, bne_self_eq_false, reduceCtorEq, Option.some.injEq, true_and, and_true, false_and, and_false, false_or, true_or, or_true, isShift, or_false, Int.ofNat_lt, Int.ofNat_le, Int.natCast_nonneg, Int.toNat_natCast, decide_true, decide_false, Nat.reduceAdd, Nat.reduceMul, Nat.reduceSub, Nat.reduceLT, Nat.reduceLeDiff, Nat.zero_add, Nat.add_zero, Nat.mul_one, List.length_cons, List.length_nil, List.take_zero, List.drop_zero, List.take_succ_cons, List.drop_succ_cons, List.take_nil, List.drop_nil, List.getElem?_cons_zero, List.getElem?_cons_succ, List.set_cons_zero, List.set_cons_succ, Int.reduceLT, Int.reduceLE, Int.reduceEq, Int.reduceGT, Int.reduceGE, Int.reduceNeg, Int.reduceToNat, Nat.zero_mul, List.map_cons, List.map_nil, List.nil_append, List.append_nil, List.cons_append, List.toList_toArray, ones_nil, ones_cons, Nat.le_refl, load1, loadN, store1, storeN, Heap.get_alloc, Heap.get_put, Heap.next_alloc, Heap.next_put, Heap.base_alloc, Heap.base_put, r22_8, r22_10, q7, q8, Nat.lt_irrefl]
    refine ⟨?_, xg⟩
    rw [hg]; simp [half, reps_zero]

end Go.AM.Q
