/- The queue: Step as a contract; Inside. -/
import Derived.Test.YtpbaaidmgfbdbaaQ3
set_option linter.unusedVariables false
set_option linter.unusedSimpArgs false
set_option maxRecDepth 20000
namespace Go.AM.Q
open Go.AM Go.AM.Fn
attribute [local congr] ite_cond

/-- A state of a shop that may come up. -/
structure Good (s : Sh) : Prop where
  pos : s.scouts.length ≠ 0
  few : s.scouts.length ≤ 4
  ok : ∀ x ∈ s.scouts, okSt s.scouts.length x.at_

theorem Good.put {s : Sh} (g : Good s) {i : Nat} {x : Sc} (hx : okSt s.scouts.length x.at_) : Good (s.put i x) := by
  refine ⟨by rw [Sh.put_len]; exact g.pos, by rw [Sh.put_len]; exact g.few, fun y hy => ?_⟩
  rw [Sh.put_len]
  rcases List.mem_or_eq_of_mem_set hy with hy | rfl
  · exact g.ok y hy
  · exact hx
theorem At.good {h : Heap} {sb b : Nat} {s : Sh} (a : At h sb b s) : Good s := ⟨a.pos, a.few, a.ok⟩

theorem stepS_len (s : Sh) (i : Nat) (x : Sc) : (stepS s i x).1.scouts.length = s.scouts.length := by
  unfold stepS
  obtain ⟨ch, no, st⟩ := x
  cases st <;> simp only <;> (try split) <;> (try split) <;> (try split) <;> simp [Sh.put]

theorem stepS_good {s : Sh} (g : Good s) {i : Nat} (hi : i < s.scouts.length) : Good (stepS s i s.scouts[i]).1 := by
  have ho := g.ok _ (List.getElem_mem hi)
  have hp := g.pos
  unfold stepS
  generalize s.scouts[i] = x at *
  obtain ⟨ch, no, st⟩ := x
  cases st with
  | idle => exact g
  | announce => exact g.put (show 0 < _ by omega)
  | read j seen =>
    simp only [okSt] at ho
    refine g.put ?_
    simp only
    split
    · trivial
    · show j + 1 < _; omega
  | take seen => exact g.put trivial
  | announced => exact g.put (show 0 ≤ _ by omega)
  | choice j =>
    simp only [okSt] at ho
    simp only
    split
    · have := g.put (i := i) (x := ⟨ch, no, .inside⟩) trivial
      exact ⟨this.pos, this.few, this.ok⟩
    · split
      · exact g.put (show j + 1 ≤ _ by omega)
      · split
        · exact g
        · exact g.put (show j < _ by omega)
  | turn j =>
    simp only [okSt] at ho
    simp only
    split
    · exact g
    · exact g.put (show j + 1 ≤ _ by omega)
  | inside => exact g.put trivial

theorem stepS_careless (s : Sh) (i : Nat) (x : Sc) : (stepS s i x).1.careless = s.careless := by
  unfold stepS
  obtain ⟨ch, no, st⟩ := x
  cases st <;> simp only <;> (try split) <;> (try split) <;> (try split) <;> simp [Sh.put]

theorem step_spec {h : Heap} (k : Ok h) {sb b : Nat} {s : Sh} (a : At h sb b s) {i : Nat} (hi : i < s.scouts.length) : Call T 16 [ptr sb, .int .i64 i] h (fun v h' => v = .tuple #[.bool (stepS s i s.scouts[i]).2.1, .int .i64 (stepS s i s.scouts[i]).2.2] ∧ At h' sb b (stepS s i s.scouts[i]).1 ∧ But h h' sb b) := by
  obtain ⟨m, cap, e, e2, hs, hr, hsb, hb, hne⟩ := a.inv
  refine (Call.grows (step_core k a hi hs hr)).imp ?_
  rintro v h' ⟨⟨hv, h1, ⟨e3, h2⟩, h3⟩, g⟩
  have g' := stepS_good a.good hi
  exact ⟨hv, ⟨⟨m, cap, e, h1⟩, ⟨e3, h2⟩, by rw [g.base]; exact hsb, by rw [g.base]; exact hb, hne, g'.pos, g'.few, g'.ok⟩, g.base, g.next, h3, k.grows g⟩

/-- The scouts inside, from number 'i' on. -/
def insFrom : Nat → List Sc → List Int
  | _, [] => []
  | i, x :: l => if x.at_ = .inside then (i : Int) :: insFrom (i + 1) l else insFrom (i + 1) l
def ins (s : Sh) : List Int := insFrom 0 s.scouts

theorem insFrom_app (i : Nat) (a b : List Sc) : insFrom i (a ++ b) = insFrom i a ++ insFrom (i + a.length) b := by
  induction a generalizing i with
  | nil => simp [insFrom]
  | cons x a ih =>
    simp only [List.cons_append, insFrom, ih, List.length_cons]
    rw [show i + 1 + a.length = i + (a.length + 1) by omega]
    split <;> simp

theorem insFrom_len (i : Nat) (a : List Sc) : (insFrom i a).length ≤ a.length := by
  induction a generalizing i with
  | nil => simp [insFrom]
  | cons x a ih =>
    simp only [insFrom]
    have := ih (i + 1)
    split <;> simp <;> omega

theorem cellsOf_row {l : List Sc} {i : Nat} (hi : i < l.length) : ((cellsOf l).drop (i * 3)).take 3 = scCells l[i] := by
  induction l generalizing i with
  | nil => simp at hi
  | cons y l ih =>
    simp only [cellsOf, List.flatMap_cons] at *
    cases i with
    | zero => rfl
    | succ i =>
      have : (i + 1) * 3 = (scCells y).length + i * 3 := by simp [scCells]; omega
      rw [this, ← List.drop_drop, List.drop_left]
      exact ih (by simpa using hi)

theorem inside_spec {h : Heap} (k : Ok h) {sb b : Nat} {s : Sh} (a : At h sb b s) : Call T 12 [ptr sb] h (fun v h' => Ints h' v (ins s) ∧ More h h') := by
  have := a.pos
  have hfew := a.few
  refine (Call.grows (R := fun v h' => Ints h' v (ins s) ∧ Ext h h') ?_).imp (fun v h' ⟨⟨h1, h2⟩, g⟩ => ⟨h1, h2, k.grows g⟩)
  refine Call.of (fn := f12) rfl (by simp [f12]) ?_
  unfold f12
  simp only [bnd_none, bnd_tmp', bnd_const, enter_zero, enter_succ, undef, ↓wpC_seq, ↓wpC_region, ↓wpC_cond, ↓wpC_block, ↓wpC_skip, ↓wpC_exit, ↓wpC_ret, ↓seqP_normal, ↓seqP_exit, ↓seqP_ret, ↓blockP_normal, ↓blockP_exit, ↓blockP_ret, ↓endP_normal, ↓endP_ret, ↓wpOps_nil, ↓wpOps_p, ↓wpOps_l, ↓wpOps_a, ↓wpOps_e, ↓wpOps_c, ↓wpOps_i, ↓wpOps_g, ↓Rest_apply, ↓pop_eqi, ↓pop_tas, ↓pop_iaddr, ↓pop_len, ↓pop_aaddr, aaddrA_ptr, lenA_slice, ↓pop_mov, ↓pop_pick, ↓pop_bin, ↓pop_eqv, ↓pop_not, ↓pop_neg, ↓pop_conv, ↓pop_ext, ↓pop_nilc, ↓pop_faddr, ↓pop_slice, ↓pop_mn, ↓pop_mx, ↓pop_mkif, ↓pop_mkfn, ↓eop_store, ↓eop_append, ↓eop_copy, ↓eop_clear, ↓alop_var, ↓alop_box, ↓alop_bslice, ↓alop_mslice, ↓pop_build, fillA_nil, fillA_cons, ptrTo_eq, rowOf_eq, made_zero, made_one, made_two, made_three, made_pair, cells_int, cells_bool, cells_ptr, cells_slice, cells_iface, cells_niliface, cells_agg, cells_agg', one_int, one_bool, one_ptr, one_slice, one_iface, one_niliface, ↓ev_tmp, ↓ev_const, ↓ev_func, ↓ev_global, ↓put_get, ↓put_none, ↓want_some, ↓keepOk_nil, ↓keepOk_cons, ↓resList_nil, ↓resList_cons, ↓resA_tmp, ↓resA_cell, oneOrTuple_one, oneOrTuple_two, iop, decide_eq_true_eq, Bool.not_eq_true', decide_eq_false_iff_not, bne_iff_ne, beq_iff_eq, beq_true, beq_false, ne_eq, not_true_eq_false, not_false_eq_true,  if_true, if_false, ↓reduceIte, Bool.false_eq_true, Bool.not_true, Bool.not_false, Nat.reduceEqDiff, beq_self_eq_true, bne_self_eq_false, reduceCtorEq, Option.some.injEq, true_and, and_true, false_and, and_false, false_or, true_or, or_true, isShift, or_false, Int.ofNat_lt, Int.ofNat_le, Int.natCast_nonneg, Int.toNat_natCast, decide_true, decide_false, Nat.reduceAdd, Nat.reduceMul, Nat.reduceSub, Nat.reduceLT, Nat.reduceLeDiff, Nat.zero_add, Nat.add_zero, Nat.mul_one, List.length_cons, List.length_nil, List.take_zero, List.drop_zero, List.take_succ_cons, List.drop_succ_cons, List.take_nil, List.drop_nil, List.getElem?_cons_zero, List.getElem?_cons_succ, List.set_cons_zero, List.set_cons_succ, Int.reduceLT, Int.reduceLE, Int.reduceEq, Int.reduceGT, Int.reduceGE, Int.reduceNeg, Int.reduceToNat, Nat.zero_mul, List.map_cons, List.map_nil, List.nil_append, List.append_nil, List.cons_append, List.toList_toArray, ones_nil, ones_cons, Nat.le_refl, load1, loadN, store1, storeN, Heap.get_alloc, Heap.get_put, Heap.next_alloc, Heap.next_put, Heap.base_alloc, Heap.base_put, r12_0, r12_1]
  refine (made_spec a).imp ?_
  rintro v h' ⟨rfl, rfl⟩
  obtain ⟨m, cap, e, e2, hs, hr, hsb, hb, hne⟩ := a.inv
  unfold ptr
  simp only [bnd_none, bnd_tmp', bnd_const, enter_zero, enter_succ, undef, ↓wpC_seq, ↓wpC_region, ↓wpC_cond, ↓wpC_block, ↓wpC_skip, ↓wpC_exit, ↓wpC_ret, ↓seqP_normal, ↓seqP_exit, ↓seqP_ret, ↓blockP_normal, ↓blockP_exit, ↓blockP_ret, ↓endP_normal, ↓endP_ret, ↓wpOps_nil, ↓wpOps_p, ↓wpOps_l, ↓wpOps_a, ↓wpOps_e, ↓wpOps_c, ↓wpOps_i, ↓wpOps_g, ↓Rest_apply, ↓pop_eqi, ↓pop_tas, ↓pop_iaddr, ↓pop_len, ↓pop_aaddr, aaddrA_ptr, lenA_slice, ↓pop_mov, ↓pop_pick, ↓pop_bin, ↓pop_eqv, ↓pop_not, ↓pop_neg, ↓pop_conv, ↓pop_ext, ↓pop_nilc, ↓pop_faddr, ↓pop_slice, ↓pop_mn, ↓pop_mx, ↓pop_mkif, ↓pop_mkfn, ↓eop_store, ↓eop_append, ↓eop_copy, ↓eop_clear, ↓alop_var, ↓alop_box, ↓alop_bslice, ↓alop_mslice, ↓pop_build, fillA_nil, fillA_cons, ptrTo_eq, rowOf_eq, made_zero, made_one, made_two, made_three, made_pair, cells_int, cells_bool, cells_ptr, cells_slice, cells_iface, cells_niliface, cells_agg, cells_agg', one_int, one_bool, one_ptr, one_slice, one_iface, one_niliface, ↓ev_tmp, ↓ev_const, ↓ev_func, ↓ev_global, ↓put_get, ↓put_none, ↓want_some, ↓keepOk_nil, ↓keepOk_cons, ↓resList_nil, ↓resList_cons, ↓resA_tmp, ↓resA_cell, oneOrTuple_one, oneOrTuple_two, iop, decide_eq_true_eq, Bool.not_eq_true', decide_eq_false_iff_not, bne_iff_ne, beq_iff_eq, beq_true, beq_false, ne_eq, not_true_eq_false, not_false_eq_true,  if_true, if_false, ↓reduceIte, Bool.false_eq_true, Bool.not_true, Bool.not_false, Nat.reduceEqDiff, beq_self_eq_true, bne_self_eq_false, reduceCtorEq, Option.some.injEq, true_and, and_true, false_and, and_false, false_or, true_or, or_true, isShift, or_false, Int.ofNat_lt, Int.ofNat_le, Int.natCast_nonneg, Int.toNat_natCast, decide_true, decide_false, Nat.reduceAdd, Nat.reduceMul, Nat.reduceSub, Nat.reduceLT, Nat.reduceLeDiff, Nat.zero_add, Nat.add_zero, Nat.mul_one, List.length_cons, List.length_nil, List.take_zero, List.drop_zero, List.take_succ_cons, List.drop_succ_cons, List.take_nil, List.drop_nil, List.getElem?_cons_zero, List.getElem?_cons_succ, List.set_cons_zero, List.set_cons_succ, Int.reduceLT, Int.reduceLE, Int.reduceEq, Int.reduceGT, Int.reduceGE, Int.reduceNeg, Int.reduceToNat, Nat.zero_mul, List.map_cons, List.map_nil, List.nil_append, List.append_nil, List.cons_append, List.toList_toArray, ones_nil, ones_cons, Nat.le_refl, load1, loadN, store1, storeN, Heap.get_alloc, Heap.get_put, Heap.next_alloc, Heap.next_put, Heap.base_alloc, Heap.base_put, r12_3, r12_4, hsb, hs]
  refine wp_loop Call.mono (fun q ρ h1 => ∃ i : Nat, ρ 14 = .int .i64 i ∧ ρ 12 = .slice (some ⟨b, 0, m⟩) s.scouts.length cap ∧ ρ 13 = .int .i64 s.scouts.length ∧ i + q = s.scouts.length ∧ Ext h' h1 ∧ Ok h1 ∧
    (let l := insFrom 0 (s.scouts.take i); Own h' h1 (ρ 3) l.length 1 (l.map (.int .i64)))) ?_ (m := s.scouts.length) ⟨0, rfl, rfl, rfl, by omega, .refl _, k, Own.nil h' h' 1⟩
  rintro q ρ h1 ⟨i, q14, q12, q13, hq, x1, k1, own⟩
  have hb1 : h1.base ≤ b := by rw [x1.base]; exact hb
  have hr1 : h1.get b = some { cells := cellsOf s.scouts, esz := e2 } := by rw [x1.get _ (k.lt hr)]; exact hr
  have hbn : ¬ b = h1.next := by have := k1.lt hr1; omega
  have hn := k1.le
  unfold b12_1
  by_cases hi : i < s.scouts.length
  · have hlen : i * 3 + 3 ≤ (cellsOf s.scouts).length := by rw [cellsOf_length]; omega
    have htk : ((cellsOf s.scouts).drop (i * 3)).take 3 = scCells s.scouts[i] := cellsOf_row hi
    have hw := wrap_succ hi (by omega)
    have htake : insFrom 0 (s.scouts.take (i + 1)) = insFrom 0 (s.scouts.take i) ++ insFrom i [s.scouts[i]] := by
      rw [List.take_succ_eq_append_getElem hi, insFrom_app]; simp [List.length_take, Nat.min_eq_left (Nat.le_of_lt hi)]
    have x2 : Ext h1 ((h1.alloc { cells := [.bool false, .int .i64 0, .nilIface], esz := 0 }).put h1.next { cells := scCells s.scouts[i], esz := 0 }) := (Ext.alloc _ _).put (Nat.le_refl _) _
    have k2 : Ok ((h1.alloc { cells := [.bool false, .int .i64 0, .nilIface], esz := 0 }).put h1.next { cells := scCells s.scouts[i], esz := 0 }) := (k1.alloc _).put (by simp [Heap.alloc]) _
    have hle := insFrom_len 0 (s.scouts.take i)
    rw [List.length_take, Nat.min_eq_left (Nat.le_of_lt hi)] at hle
    obtain ⟨v', h3, hap, own3, x3, k3⟩ := Own.push (h0 := h') (x1.trans x2) k2 (bytes := 8) (news := [.int .i64 i]) (own.step x2 k1) rfl rfl (by omega) (by omega) (by omega)
    simp only [rowOf_eq, Heap.next_put, Heap.next_alloc, scCells] at hap
    by_cases h4 : s.scouts[i].at_ = .inside
    · rw [h4] at hap
      simp only [bnd_none, bnd_tmp', bnd_const, enter_zero, enter_succ, undef, ↓wpC_seq, ↓wpC_region, ↓wpC_cond, ↓wpC_block, ↓wpC_skip, ↓wpC_exit, ↓wpC_ret, ↓seqP_normal, ↓seqP_exit, ↓seqP_ret, ↓blockP_normal, ↓blockP_exit, ↓blockP_ret, ↓endP_normal, ↓endP_ret, ↓wpOps_nil, ↓wpOps_p, ↓wpOps_l, ↓wpOps_a, ↓wpOps_e, ↓wpOps_c, ↓wpOps_i, ↓wpOps_g, ↓Rest_apply, ↓pop_eqi, ↓pop_tas, ↓pop_iaddr, ↓pop_len, ↓pop_aaddr, aaddrA_ptr, lenA_slice, ↓pop_mov, ↓pop_pick, ↓pop_bin, ↓pop_eqv, ↓pop_not, ↓pop_neg, ↓pop_conv, ↓pop_ext, ↓pop_nilc, ↓pop_faddr, ↓pop_slice, ↓pop_mn, ↓pop_mx, ↓pop_mkif, ↓pop_mkfn, ↓eop_store, ↓eop_append, ↓eop_copy, ↓eop_clear, ↓alop_var, ↓alop_box, ↓alop_bslice, ↓alop_mslice, ↓pop_build, fillA_nil, fillA_cons, ptrTo_eq, rowOf_eq, made_zero, made_one, made_two, made_three, made_pair, cells_int, cells_bool, cells_ptr, cells_slice, cells_iface, cells_niliface, cells_agg, cells_agg', one_int, one_bool, one_ptr, one_slice, one_iface, one_niliface, ↓ev_tmp, ↓ev_const, ↓ev_func, ↓ev_global, ↓put_get, ↓put_none, ↓want_some, ↓keepOk_nil, ↓keepOk_cons, ↓resList_nil, ↓resList_cons, ↓resA_tmp, ↓resA_cell, oneOrTuple_one, oneOrTuple_two, iop, decide_eq_true_eq, Bool.not_eq_true', decide_eq_false_iff_not, bne_iff_ne, beq_iff_eq, beq_true, beq_false, ne_eq, not_true_eq_false, not_false_eq_true,  if_true, if_false, ↓reduceIte, Bool.false_eq_true, Bool.not_true, Bool.not_false, Nat.reduceEqDiff, beq_self_eq_true, bne_self_eq_false, reduceCtorEq, Option.some.injEq, true_and, and_true, false_and, and_false, false_or, true_or, or_true, isShift, or_false, Int.ofNat_lt, Int.ofNat_le, Int.natCast_nonneg, Int.toNat_natCast, decide_true, decide_false, Nat.reduceAdd, Nat.reduceMul, Nat.reduceSub, Nat.reduceLT, Nat.reduceLeDiff, Nat.zero_add, Nat.add_zero, Nat.mul_one, List.length_cons, List.length_nil, List.take_zero, List.drop_zero, List.take_succ_cons, List.drop_succ_cons, List.take_nil, List.drop_nil, List.getElem?_cons_zero, List.getElem?_cons_succ, List.set_cons_zero, List.set_cons_succ, Int.reduceLT, Int.reduceLE, Int.reduceEq, Int.reduceGT, Int.reduceGE, Int.reduceNeg, Int.reduceToNat, Nat.zero_mul, List.map_cons, List.map_nil, List.nil_append, List.append_nil, List.cons_append, List.toList_toArray, ones_nil, ones_cons, Nat.le_refl, load1, loadN, store1, storeN, Heap.get_alloc, Heap.get_put, Heap.next_alloc, Heap.next_put, Heap.base_alloc, Heap.base_put, r12_5, r12_6, r12_7, r12_8, r12_9, q14, q12, q13, hi, iaddrA, hb1, hr1, hlen, htk, hn, scCells, eq_inside, enc_one, h4, hap, hw]
      refine ⟨q - 1, by omega, i + 1, rfl, by omega, x3, k3, ?_⟩
      rw [htake]
      simp only [insFrom, h4, if_true, List.map_append, List.length_append]
      exact own3
    · simp only [bnd_none, bnd_tmp', bnd_const, enter_zero, enter_succ, undef, ↓wpC_seq, ↓wpC_region, ↓wpC_cond, ↓wpC_block, ↓wpC_skip, ↓wpC_exit, ↓wpC_ret, ↓seqP_normal, ↓seqP_exit, ↓seqP_ret, ↓blockP_normal, ↓blockP_exit, ↓blockP_ret, ↓endP_normal, ↓endP_ret, ↓wpOps_nil, ↓wpOps_p, ↓wpOps_l, ↓wpOps_a, ↓wpOps_e, ↓wpOps_c, ↓wpOps_i, ↓wpOps_g, ↓Rest_apply, ↓pop_eqi, ↓pop_tas, ↓pop_iaddr, ↓pop_len, ↓pop_aaddr, aaddrA_ptr, lenA_slice, ↓pop_mov, ↓pop_pick, ↓pop_bin, ↓pop_eqv, ↓pop_not, ↓pop_neg, ↓pop_conv, ↓pop_ext, ↓pop_nilc, ↓pop_faddr, ↓pop_slice, ↓pop_mn, ↓pop_mx, ↓pop_mkif, ↓pop_mkfn, ↓eop_store, ↓eop_append, ↓eop_copy, ↓eop_clear, ↓alop_var, ↓alop_box, ↓alop_bslice, ↓alop_mslice, ↓pop_build, fillA_nil, fillA_cons, ptrTo_eq, rowOf_eq, made_zero, made_one, made_two, made_three, made_pair, cells_int, cells_bool, cells_ptr, cells_slice, cells_iface, cells_niliface, cells_agg, cells_agg', one_int, one_bool, one_ptr, one_slice, one_iface, one_niliface, ↓ev_tmp, ↓ev_const, ↓ev_func, ↓ev_global, ↓put_get, ↓put_none, ↓want_some, ↓keepOk_nil, ↓keepOk_cons, ↓resList_nil, ↓resList_cons, ↓resA_tmp, ↓resA_cell, oneOrTuple_one, oneOrTuple_two, iop, decide_eq_true_eq, Bool.not_eq_true', decide_eq_false_iff_not, bne_iff_ne, beq_iff_eq, beq_true, beq_false, ne_eq, not_true_eq_false, not_false_eq_true,  if_true, if_false, ↓reduceIte, Bool.false_eq_true, Bool.not_true, Bool.not_false, Nat.reduceEqDiff, beq_self_eq_true, bne_self_eq_false, reduceCtorEq, Option.some.injEq, true_and, and_true, false_and, and_false, false_or, true_or, or_true, isShift, or_false, Int.ofNat_lt, Int.ofNat_le, Int.natCast_nonneg, Int.toNat_natCast, decide_true, decide_false, Nat.reduceAdd, Nat.reduceMul, Nat.reduceSub, Nat.reduceLT, Nat.reduceLeDiff, Nat.zero_add, Nat.add_zero, Nat.mul_one, List.length_cons, List.length_nil, List.take_zero, List.drop_zero, List.take_succ_cons, List.drop_succ_cons, List.take_nil, List.drop_nil, List.getElem?_cons_zero, List.getElem?_cons_succ, List.set_cons_zero, List.set_cons_succ, Int.reduceLT, Int.reduceLE, Int.reduceEq, Int.reduceGT, Int.reduceGE, Int.reduceNeg, Int.reduceToNat, Nat.zero_mul, List.map_cons, List.map_nil, List.nil_append, List.append_nil, List.cons_append, List.toList_toArray, ones_nil, ones_cons, Nat.le_refl, load1, loadN, store1, storeN, Heap.get_alloc, Heap.get_put, Heap.next_alloc, Heap.next_put, Heap.base_alloc, Heap.base_put, r12_5, r12_6, r12_7, r12_9, q14, q12, q13, hi, iaddrA, hb1, hr1, hlen, htk, hn, scCells, eq_inside, enc_one, h4, hw]
      refine ⟨q - 1, by omega, i + 1, rfl, by omega, x1.trans x2, k2, ?_⟩
      rw [htake]
      simp only [insFrom, h4, if_false, List.append_nil]
      exact own.step x2 k1
  · simp only [bnd_none, bnd_tmp', bnd_const, enter_zero, enter_succ, undef, ↓wpC_seq, ↓wpC_region, ↓wpC_cond, ↓wpC_block, ↓wpC_skip, ↓wpC_exit, ↓wpC_ret, ↓seqP_normal, ↓seqP_exit, ↓seqP_ret, ↓blockP_normal, ↓blockP_exit, ↓blockP_ret, ↓endP_normal, ↓endP_ret, ↓wpOps_nil, ↓wpOps_p, ↓wpOps_l, ↓wpOps_a, ↓wpOps_e, ↓wpOps_c, ↓wpOps_i, ↓wpOps_g, ↓Rest_apply, ↓pop_eqi, ↓pop_tas, ↓pop_iaddr, ↓pop_len, ↓pop_aaddr, aaddrA_ptr, lenA_slice, ↓pop_mov, ↓pop_pick, ↓pop_bin, ↓pop_eqv, ↓pop_not, ↓pop_neg, ↓pop_conv, ↓pop_ext, ↓pop_nilc, ↓pop_faddr, ↓pop_slice, ↓pop_mn, ↓pop_mx, ↓pop_mkif, ↓pop_mkfn, ↓eop_store, ↓eop_append, ↓eop_copy, ↓eop_clear, ↓alop_var, ↓alop_box, ↓alop_bslice, ↓alop_mslice, ↓pop_build, fillA_nil, fillA_cons, ptrTo_eq, rowOf_eq, made_zero, made_one, made_two, made_three, made_pair, cells_int, cells_bool, cells_ptr, cells_slice, cells_iface, cells_niliface, cells_agg, cells_agg', one_int, one_bool, one_ptr, one_slice, one_iface, one_niliface, ↓ev_tmp, ↓ev_const, ↓ev_func, ↓ev_global, ↓put_get, ↓put_none, ↓want_some, ↓keepOk_nil, ↓keepOk_cons, ↓resList_nil, ↓resList_cons, ↓resA_tmp, ↓resA_cell, oneOrTuple_one, oneOrTuple_two, iop, decide_eq_true_eq, Bool.not_eq_true', decide_eq_false_iff_not, bne_iff_ne, beq_iff_eq, beq_true, beq_false, ne_eq, not_true_eq_false, not_false_eq_true,  if_true, if_false, ↓reduceIte, Bool.false_eq_true, Bool.not_true, Bool.not_false, Nat.reduceEqDiff, beq_self_eq_true, bne_self_eq_false, reduceCtorEq, Option.some.injEq, true_and, and_true, false_and, and_false, false_or, true_or, or_true, isShift, or_false, Int.ofNat_lt, Int.ofNat_le, Int.natCast_nonneg, Int.toNat_natCast, decide_true, decide_false, Nat.reduceAdd, Nat.reduceMul, Nat.reduceSub, Nat.reduceLT, Nat.reduceLeDiff, Nat.zero_add, Nat.add_zero, Nat.mul_one, List.length_cons, List.length_nil, List.take_zero, List.drop_zero, List.take_succ_cons, List.drop_succ_cons, List.take_nil, List.drop_nil, List.getElem?_cons_zero, List.getElem?_cons_succ, List.set_cons_zero, List.set_cons_succ, Int.reduceLT, Int.reduceLE, Int.reduceEq, Int.reduceGT, Int.reduceGE, Int.reduceNeg, Int.reduceToNat, Nat.zero_mul, List.map_cons, List.map_nil, List.nil_append, List.append_nil, List.cons_append, List.toList_toArray, ones_nil, ones_cons, Nat.le_refl, load1, loadN, store1, storeN, Heap.get_alloc, Heap.get_put, Heap.next_alloc, Heap.next_put, Heap.base_alloc, Heap.base_put, r12_5, r12_10, q14, q12, q13, hi]
    refine ⟨?_, x1⟩
    have hii : i = s.scouts.length := by omega
    subst hii
    rw [List.take_length] at own
    have := own.reads
    unfold Ints ins
    simpa using this

end Go.AM.Q
