/- The queue: New, Clone. -/
import Derived.Test.YtpbaaidmgfbdbaaQ9
set_option linter.unusedVariables false
set_option linter.unusedSimpArgs false
set_option maxRecDepth 20000
namespace Go.AM.Q
open Go.AM Go.AM.Fn
attribute [local congr] ite_cond

def newS (n : Nat) (c : Bool) : Sh := ⟨List.replicate n dflt, c, 0⟩

theorem cellsOf_rep (n : Nat) : cellsOf (List.replicate n dflt) = reps n (scCells dflt) := by
  induction n with
  | zero => rfl
  | succ n ih => rw [List.replicate_succ, reps_succ, ← ih]; rfl

theorem new_spec {h : Heap} (k : Ok h) {n : Nat} (h0 : 1 ≤ n) (h4 : n ≤ 4) (c : Bool) : Call T 6 [.int .i64 n, .bool c] h (fun v h' => ∃ sb b, v = .tuple #[ptr sb, .int .i64 0] ∧ At h' sb b (newS n c) ∧ More h h' ∧ h.next ≤ sb ∧ h.next ≤ b) := by
  refine (Call.grows (R := fun v h' => ∃ sb b, v = .tuple #[ptr sb, .int .i64 0] ∧ At h' sb b (newS n c) ∧ Ext h h' ∧ h.next ≤ sb ∧ h.next ≤ b) ?_).imp (fun v h' ⟨⟨sb, b, a1, a2, a3, a4, a5⟩, g⟩ => ⟨sb, b, a1, a2, ⟨a3, k.grows g⟩, a4, a5⟩)
  refine Call.of (fn := f6) rfl (by simp [f6]) ?_
  unfold f6
  have c1 : ¬ (n : Int) < 1 := by omega
  have c2 : ¬ (n : Int) > 4 := by omega
  simp only [bnd_none, bnd_tmp', bnd_const, enter_zero, enter_succ, undef, ↓wpC_seq, ↓wpC_region, ↓wpC_cond, ↓wpC_block, ↓wpC_skip, ↓wpC_exit, ↓wpC_ret, ↓seqP_normal, ↓seqP_exit, ↓seqP_ret, ↓blockP_normal, ↓blockP_exit, ↓blockP_ret, ↓endP_normal, ↓endP_ret, ↓wpOps_nil, ↓wpOps_p, ↓wpOps_l, ↓wpOps_a, ↓wpOps_e, ↓wpOps_c, ↓wpOps_i, ↓wpOps_g, ↓Rest_apply, ↓pop_eqi, ↓pop_tas, ↓pop_iaddr, ↓pop_len, ↓pop_aaddr, aaddrA_ptr, lenA_slice, ↓pop_mov, ↓pop_pick, ↓pop_bin, ↓pop_eqv, ↓pop_not, ↓pop_neg, ↓pop_conv, ↓pop_ext, ↓pop_nilc, ↓pop_faddr, ↓pop_slice, ↓pop_mn, ↓pop_mx, ↓pop_mkif, ↓pop_mkfn, ↓eop_store, ↓eop_append, ↓eop_copy, ↓eop_clear, ↓alop_var, ↓alop_box, ↓alop_bslice, ↓alop_mslice, ↓pop_build, fillA_nil, fillA_cons, ptrTo_eq, rowOf_eq, made_zero, made_one, made_two, made_three, made_pair, cells_int, cells_bool, cells_ptr, cells_slice, cells_iface, cells_niliface, cells_agg, cells_agg', one_int, one_bool, one_ptr, one_slice, one_iface, one_niliface, ↓ev_tmp, ↓ev_const, ↓ev_func, ↓ev_global, ↓put_get, ↓put_none, ↓want_some, ↓keepOk_nil, ↓keepOk_cons, ↓resList_nil, ↓resList_cons, ↓resA_tmp, ↓resA_cell, oneOrTuple_one, oneOrTuple_two, iop, decide_eq_true_eq, Bool.not_eq_true', decide_eq_false_iff_not, bne_iff_ne, beq_iff_eq, beq_true, beq_false, ne_eq, not_true_eq_false, not_false_eq_true,  if_true, if_false, ↓reduceIte, Bool.false_eq_true, Bool.not_true, Bool.not_false, Nat.reduceEqDiff, beq_self_eq_true, bne_self_eq_false, reduceCtorEq, Option.some.injEq, true_and, and_true, false_and, and_false, false_or, true_or, or_true, isShift, or_false, Int.ofNat_lt, Int.ofNat_le, Int.natCast_nonneg, Int.toNat_natCast, decide_true, decide_false, Nat.reduceAdd, Nat.reduceMul, Nat.reduceSub, Nat.reduceLT, Nat.reduceLeDiff, Nat.zero_add, Nat.add_zero, Nat.mul_one, List.length_cons, List.length_nil, List.take_zero, List.drop_zero, List.take_succ_cons, List.drop_succ_cons, List.take_nil, List.drop_nil, List.getElem?_cons_zero, List.getElem?_cons_succ, List.set_cons_zero, List.set_cons_succ, Int.reduceLT, Int.reduceLE, Int.reduceEq, Int.reduceGT, Int.reduceGE, Int.reduceNeg, Int.reduceToNat, Nat.zero_mul, List.map_cons, List.map_nil, List.nil_append, List.append_nil, List.cons_append, List.toList_toArray, ones_nil, ones_cons, Nat.le_refl, load1, loadN, store1, storeN, Heap.get_alloc, Heap.get_put, Heap.next_alloc, Heap.next_put, Heap.base_alloc, Heap.base_put, r6_0, r6_1, r6_3, c1, c2, List.size_toArray]
  have x1 : Ext h (h.alloc { cells := scCells dflt, esz := 0 }) := .alloc _ _
  have hl : Reads (h.alloc { cells := scCells dflt, esz := 0 }) (.slice (some ⟨h.next, 0, none⟩) 1 1) 1 3 (scCells dflt) := by
    refine ⟨rfl, by omega, rfl, fun _ => ⟨_, _, _, _, rfl, ?_⟩⟩
    rw [read_own (h := h.alloc { cells := scCells dflt, esz := 0 }) (b := h.next) (blk := { cells := scCells dflt, esz := 0 }) k.le (by simp [Heap.alloc]) (by simp [scCells])]; rfl
  refine (repeat_spec (k.alloc { cells := scCells dflt, esz := 0 }) (x := scCells dflt) rfl (show Ones (scCells dflt) from rfl) hl h0 (by omega)).imp ?_
  rintro v h' ⟨rfl, hg, mo⟩
  have hn : (h.alloc { cells := scCells dflt, esz := 0 }).next = h.next + 1 := rfl
  have hlt : h.next + 1 < h'.next := mo.2.lt hg
  rw [hn] at hg
  simp only [bnd_none, bnd_tmp', bnd_const, enter_zero, enter_succ, undef, ↓wpC_seq, ↓wpC_region, ↓wpC_cond, ↓wpC_block, ↓wpC_skip, ↓wpC_exit, ↓wpC_ret, ↓seqP_normal, ↓seqP_exit, ↓seqP_ret, ↓blockP_normal, ↓blockP_exit, ↓blockP_ret, ↓endP_normal, ↓endP_ret, ↓wpOps_nil, ↓wpOps_p, ↓wpOps_l, ↓wpOps_a, ↓wpOps_e, ↓wpOps_c, ↓wpOps_i, ↓wpOps_g, ↓Rest_apply, ↓pop_eqi, ↓pop_tas, ↓pop_iaddr, ↓pop_len, ↓pop_aaddr, aaddrA_ptr, lenA_slice, ↓pop_mov, ↓pop_pick, ↓pop_bin, ↓pop_eqv, ↓pop_not, ↓pop_neg, ↓pop_conv, ↓pop_ext, ↓pop_nilc, ↓pop_faddr, ↓pop_slice, ↓pop_mn, ↓pop_mx, ↓pop_mkif, ↓pop_mkfn, ↓eop_store, ↓eop_append, ↓eop_copy, ↓eop_clear, ↓alop_var, ↓alop_box, ↓alop_bslice, ↓alop_mslice, ↓pop_build, fillA_nil, fillA_cons, ptrTo_eq, rowOf_eq, made_zero, made_one, made_two, made_three, made_pair, cells_int, cells_bool, cells_ptr, cells_slice, cells_iface, cells_niliface, cells_agg, cells_agg', one_int, one_bool, one_ptr, one_slice, one_iface, one_niliface, ↓ev_tmp, ↓ev_const, ↓ev_func, ↓ev_global, ↓put_get, ↓put_none, ↓want_some, ↓keepOk_nil, ↓keepOk_cons, ↓resList_nil, ↓resList_cons, ↓resA_tmp, ↓resA_cell, oneOrTuple_one, oneOrTuple_two, iop, decide_eq_true_eq, Bool.not_eq_true', decide_eq_false_iff_not, bne_iff_ne, beq_iff_eq, beq_true, beq_false, ne_eq, not_true_eq_false, not_false_eq_true,  if_true, if_false, ↓reduceIte, Bool.false_eq_true, Bool.not_true, Bool.not_false, Nat.reduceEqDiff, beq_self_eq_true, bne_self_eq_false, reduceCtorEq, Option.some.injEq, true_and, and_true, false_and, and_false, false_or, true_or, or_true, isShift, or_false, Int.ofNat_lt, Int.ofNat_le, Int.natCast_nonneg, Int.toNat_natCast, decide_true, decide_false, Nat.reduceAdd, Nat.reduceMul, Nat.reduceSub, Nat.reduceLT, Nat.reduceLeDiff, Nat.zero_add, Nat.add_zero, Nat.mul_one, List.length_cons, List.length_nil, List.take_zero, List.drop_zero, List.take_succ_cons, List.drop_succ_cons, List.take_nil, List.drop_nil, List.getElem?_cons_zero, List.getElem?_cons_succ, List.set_cons_zero, List.set_cons_succ, Int.reduceLT, Int.reduceLE, Int.reduceEq, Int.reduceGT, Int.reduceGE, Int.reduceNeg, Int.reduceToNat, Nat.zero_mul, List.map_cons, List.map_nil, List.nil_append, List.append_nil, List.cons_append, List.toList_toArray, ones_nil, ones_cons, Nat.le_refl, load1, loadN, store1, storeN, Heap.get_alloc, Heap.get_put, Heap.next_alloc, Heap.next_put, Heap.base_alloc, Heap.base_put, List.size_toArray, hn]
  have hne : ¬ h.next + 1 = h'.next := by omega
  refine ⟨h'.next, h.next + 1, rfl, ⟨⟨none, n, 0, ?_⟩, ⟨0, ?_⟩, ?_, ?_, by omega, ?_, ?_, ?_⟩, ?_, by omega, by omega⟩
  · simp [Heap.get_alloc, newS]
  · simp only [Heap.get_alloc, hne, if_false, hg, newS, cellsOf_rep]
  · exact mo.2.le
  · show h'.base ≤ h.next + 1
    rw [mo.1.base]; have := k.le; show h.base ≤ _; omega
  · simp [newS]; omega
  · simp [newS]; omega
  · intro x hx
    have := (List.mem_replicate.1 hx).2
    subst this; trivial
  · exact (x1.trans mo.1).alloc' _

theorem sclone_spec {h : Heap} (k : Ok h) {sb b : Nat} {s : Sh} (a : At h sb b s) {m : Option Nat} {cap e : Nat} (hs : h.get sb = some { cells := [.slice (some ⟨b, 0, m⟩) s.scouts.length cap, .bool s.careless, .int .i64 s.taken], esz := e }) :
    Call T 27 [.slice (some ⟨b, 0, m⟩) s.scouts.length cap] h (fun v h' => ∃ c, v = .slice (some ⟨c, 0, some 0⟩) s.scouts.length 0 ∧ h'.get c = some { cells := cellsOf s.scouts, esz := 3 } ∧ h.next ≤ c ∧ More h h') := by
  refine (Call.grows (R := fun v h' => ∃ c, v = .slice (some ⟨c, 0, some 0⟩) s.scouts.length 0 ∧ h'.get c = some { cells := cellsOf s.scouts, esz := 3 } ∧ h.next ≤ c ∧ Ext h h') ?_).imp (fun v h' ⟨⟨c, a1, a2, a3, a4⟩, g⟩ => ⟨c, a1, a2, a3, a4, k.grows g⟩)
  refine Call.of (fn := f27) rfl (by simp [f27]) ?_
  unfold f27
  obtain ⟨_, _, _, e2, _, hr, hsb, hb, hne⟩ := a.inv
  have hlt := k.lt hr
  have hp := a.pos
  have hf := a.few
  have hrd : (h.alloc { cells := [], esz := 0 }).read b 0 (s.scouts.length * 3) = some (cellsOf s.scouts) := by
    rw [read_own (h := h.alloc { cells := [], esz := 0 }) (b := b) (blk := { cells := cellsOf s.scouts, esz := e2 }) hb (by rw [Heap.get_alloc, if_neg (by omega)]; exact hr) (by rw [cellsOf_length]; omega)]
    simp only [List.drop_zero]; rw [← cellsOf_length, List.take_length]
  have hones : (cellsOf s.scouts).all (·.oneCell') = true := by
    rw [List.all_eq_true]
    intro x hx
    obtain ⟨y, _, hy⟩ := List.mem_flatMap.1 hx
    simp only [scCells, List.mem_cons, List.not_mem_nil, or_false] at hy
    rcases hy with rfl | rfl | rfl
    · rfl
    · rfl
    · exact enc_one _
  have hap : appendA (h.alloc { cells := [], esz := 0 }) 3 32 (.slice (some ⟨h.next, 0, none⟩) 0 0) (.slice (some ⟨b, 0, m⟩) s.scouts.length cap) = some (.slice (some ⟨h.next + 1, 0, some 0⟩) s.scouts.length 0, (h.alloc { cells := [], esz := 0 }).alloc { cells := cellsOf s.scouts, esz := 3 }) := by
    unfold appendA
    simp only [lenA, hp, if_false, srcA, hrd, hones, if_true, Nat.zero_add]
    rw [if_neg (by omega), if_pos (by omega)]
    rfl
  simp only [bnd_none, bnd_tmp', bnd_const, enter_zero, enter_succ, undef, ↓wpC_seq, ↓wpC_region, ↓wpC_cond, ↓wpC_block, ↓wpC_skip, ↓wpC_exit, ↓wpC_ret, ↓seqP_normal, ↓seqP_exit, ↓seqP_ret, ↓blockP_normal, ↓blockP_exit, ↓blockP_ret, ↓endP_normal, ↓endP_ret, ↓wpOps_nil, ↓wpOps_p, ↓wpOps_l, ↓wpOps_a, ↓wpOps_e, ↓wpOps_c, ↓wpOps_i, ↓wpOps_g, ↓Rest_apply, ↓pop_eqi, ↓pop_tas, ↓pop_iaddr, ↓pop_len, ↓pop_aaddr, aaddrA_ptr, lenA_slice, ↓pop_mov, ↓pop_pick, ↓pop_bin, ↓pop_eqv, ↓pop_not, ↓pop_neg, ↓pop_conv, ↓pop_ext, ↓pop_nilc, ↓pop_faddr, ↓pop_slice, ↓pop_mn, ↓pop_mx, ↓pop_mkif, ↓pop_mkfn, ↓eop_store, ↓eop_append, ↓eop_copy, ↓eop_clear, ↓alop_var, ↓alop_box, ↓alop_bslice, ↓alop_mslice, ↓pop_build, fillA_nil, fillA_cons, ptrTo_eq, rowOf_eq, made_zero, made_one, made_two, made_three, made_pair, cells_int, cells_bool, cells_ptr, cells_slice, cells_iface, cells_niliface, cells_agg, cells_agg', one_int, one_bool, one_ptr, one_slice, one_iface, one_niliface, ↓ev_tmp, ↓ev_const, ↓ev_func, ↓ev_global, ↓put_get, ↓put_none, ↓want_some, ↓keepOk_nil, ↓keepOk_cons, ↓resList_nil, ↓resList_cons, ↓resA_tmp, ↓resA_cell, oneOrTuple_one, oneOrTuple_two, iop, decide_eq_true_eq, Bool.not_eq_true', decide_eq_false_iff_not, bne_iff_ne, beq_iff_eq, beq_true, beq_false, ne_eq, not_true_eq_false, not_false_eq_true,  if_true, if_false, ↓reduceIte, Bool.false_eq_true, Bool.not_true, Bool.not_false, Nat.reduceEqDiff, beq_self_eq_true, bne_self_eq_false, reduceCtorEq, Option.some.injEq, true_and, and_true, false_and, and_false, false_or, true_or, or_true, isShift, or_false, Int.ofNat_lt, Int.ofNat_le, Int.natCast_nonneg, Int.toNat_natCast, decide_true, decide_false, Nat.reduceAdd, Nat.reduceMul, Nat.reduceSub, Nat.reduceLT, Nat.reduceLeDiff, Nat.zero_add, Nat.add_zero, Nat.mul_one, List.length_cons, List.length_nil, List.take_zero, List.drop_zero, List.take_succ_cons, List.drop_succ_cons, List.take_nil, List.drop_nil, List.getElem?_cons_zero, List.getElem?_cons_succ, List.set_cons_zero, List.set_cons_succ, Int.reduceLT, Int.reduceLE, Int.reduceEq, Int.reduceGT, Int.reduceGE, Int.reduceNeg, Int.reduceToNat, Nat.zero_mul, List.map_cons, List.map_nil, List.nil_append, List.append_nil, List.cons_append, List.toList_toArray, ones_nil, ones_cons, Nat.le_refl, load1, loadN, store1, storeN, Heap.get_alloc, Heap.get_put, Heap.next_alloc, Heap.next_put, Heap.base_alloc, Heap.base_put, r27_0, r27_1, r27_3, eqA, Option.isNone_none, hap]
  exact ⟨h.next + 1, rfl, by simp [Heap.get_alloc, Heap.next_alloc], by omega, ((Ext.alloc _ _).alloc' _)⟩

end Go.AM.Q
