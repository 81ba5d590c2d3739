/- The law QueueSame over the abstract machine: the first loop. -/
import Derived.Test.YtpbaaidmgfbdbaaQ12
set_option linter.unusedVariables false
set_option linter.unusedSimpArgs false
set_option maxRecDepth 20000
namespace Go.AM.Q
open Go.AM Go.AM.Fn
attribute [local congr] ite_cond

/-- A slice of bytes. -/
def Bytes (h : Heap) (v : Value) (xs : List Nat) : Prop := Reads h v xs.length 1 (xs.map fun x : Nat => Value.int .u8 (x : Int))
theorem Bytes.at {h : Heap} {v : Value} {xs : List Nat} (r : Bytes h v xs) {i : Nat} (hi : i < xs.length) : ∃ p, iaddrA 1 v (.int .i64 i) = some p ∧ loadA h 1 false p = some (.int .u8 (xs.getD i 0 : Nat)) := by
  obtain ⟨b, o, m, cap, rfl, hr⟩ := Reads.elem r hi
  refine ⟨.pointer (some ⟨b, o + i * 1, none⟩), by simp [iaddrA, hi], ?_⟩
  refine loadA_one ?_
  rw [hr]
  congr 1
  rw [Nat.mul_one]
  apply List.ext_getElem?
  intro j
  simp only [List.getElem?_take, List.getElem?_drop, List.getElem?_map]
  cases j with
  | zero => simp [hi, List.getD]
  | succ j => simp

theorem mod_int {a b : Nat} : Int.tmod (a : Int) (b : Int) = ((a % b : Nat) : Int) := by
  rw [Int.tmod_eq_emod_of_nonneg (by omega)]; rfl

def tail1 : ACode := match f3.body with
  | .seq _ (.seq _ (.seq _ t)) => t
  | _ => .skip

/-- Up to the making of the shops. -/
theorem same_a {R : Value → Heap → Prop} {h : Heap} (k : Ok h) {x : Value} {xs : List Nat} (hx : Bytes h x xs) (hxs : ∀ y ∈ xs, y < 256) {n0 n1 : Nat} (h0 : n0 < 256) (c : Bool)
    (next : ∀ (ρ : Nat → Value) (g1 g : Heap) (p0 : Nat) (vL : Value) (L : List Nat) (K : Nat), Ok g → p0 < g.next → g.base ≤ p0 → g.get p0 = some { cells := [.int .u8 n0, .int .u8 n1], esz := 0 } → ρ 2 = .bool c → ρ 3 = .pointer (some ⟨p0, 0, none⟩) → ρ 7 = .int .i64 (K : Nat) → ρ 8 = vL → 1 ≤ K ∧ K ≤ 4 → L.length ≤ 200 → (∀ y ∈ L, y < K) →
      Own g1 g vL L.length 1 ((L.map Int.ofNat).map (.int .i64)) → wpC (Call T) tail1 (endP [.tmp 6] R) ρ g) :
    Call T 3 [.agg #[.int .u8 n0, .int .u8 n1], x, .bool c] h R := by
  refine Call.of (fn := f3) rfl (by simp [f3]) ?_
  unfold f3
  have w0 : IntKind.wrap .i64 (n0 : Int) = n0 := by rw [wrap_in] <;> omega
  have w1 : Int.tmod (n0 : Int) 4 = ((n0 % 4 : Nat) : Int) := mod_int (b := 4)
  have w2 : IntKind.wrap .i64 (((n0 % 4 : Nat) : Int) + 1) = ((n0 % 4 + 1 : Nat) : Int) := by rw [wrap_in] <;> omega
  simp only [bnd_none, bnd_tmp', bnd_const, enter_zero, enter_succ, undef, ↓wpC_seq, ↓wpC_region, ↓wpC_cond, ↓wpC_block, ↓wpC_skip, ↓wpC_exit, ↓wpC_ret, ↓seqP_normal, ↓seqP_exit, ↓seqP_ret, ↓blockP_normal, ↓blockP_exit, ↓blockP_ret, ↓endP_normal, ↓endP_ret, ↓wpOps_nil, ↓wpOps_p, ↓wpOps_l, ↓wpOps_a, ↓wpOps_e, ↓wpOps_c, ↓wpOps_i, ↓wpOps_g, ↓Rest_apply, ↓pop_eqi, ↓pop_tas, ↓pop_iaddr, ↓pop_len, ↓pop_aaddr, aaddrA_ptr, lenA_slice, ↓pop_mov, ↓pop_pick, ↓pop_bin, ↓pop_eqv, ↓pop_not, ↓pop_neg, ↓pop_conv, ↓pop_ext, ↓pop_nilc, ↓pop_faddr, ↓pop_slice, ↓pop_mn, ↓pop_mx, ↓pop_mkif, ↓pop_mkfn, ↓eop_store, ↓eop_append, ↓eop_copy, ↓eop_clear, ↓alop_var, ↓alop_box, ↓alop_bslice, ↓alop_mslice, ↓pop_build, fillA_nil, fillA_cons, ptrTo_eq, rowOf_eq, made_zero, made_one, made_two, made_three, made_pair, cells_int, cells_bool, cells_ptr, cells_slice, cells_iface, cells_niliface, cells_agg, cells_agg', one_int, one_bool, one_ptr, one_slice, one_iface, one_niliface, ↓ev_tmp, ↓ev_const, ↓ev_func, ↓ev_global, ↓put_get, ↓put_none, ↓want_some, ↓keepOk_nil, ↓keepOk_cons, ↓resList_nil, ↓resList_cons, ↓resA_tmp, ↓resA_cell, oneOrTuple_one, oneOrTuple_two, iop, decide_eq_true_eq, Bool.not_eq_true', decide_eq_false_iff_not, bne_iff_ne, beq_iff_eq, beq_true, beq_false, ne_eq, not_true_eq_false, not_false_eq_true,  if_true, if_false, ↓reduceIte, Bool.false_eq_true, Bool.not_true, Bool.not_false, Nat.reduceEqDiff, beq_self_eq_true, bne_self_eq_false, reduceCtorEq, Option.some.injEq, true_and, and_true, false_and, and_false, false_or, true_or, or_true, isShift, or_false, Int.ofNat_lt, Int.ofNat_le, Int.natCast_nonneg, Int.toNat_natCast, decide_true, decide_false, Nat.reduceAdd, Nat.reduceMul, Nat.reduceSub, Nat.reduceLT, Nat.reduceLeDiff, Nat.zero_add, Nat.add_zero, Nat.mul_one, List.length_cons, List.length_nil, List.take_zero, List.drop_zero, List.take_succ_cons, List.drop_succ_cons, List.take_nil, List.drop_nil, List.getElem?_cons_zero, List.getElem?_cons_succ, List.set_cons_zero, List.set_cons_succ, Int.reduceLT, Int.reduceLE, Int.reduceEq, Int.reduceGT, Int.reduceGE, Int.reduceNeg, Int.reduceToNat, Nat.zero_mul, List.map_cons, List.map_nil, List.nil_append, List.append_nil, List.cons_append, List.toList_toArray, ones_nil, ones_cons, Nat.le_refl, load1, loadN, store1, storeN, Heap.get_alloc, Heap.get_put, Heap.next_alloc, Heap.next_put, Heap.base_alloc, Heap.base_put, r3_0, r3_1, r3_2, k.le, w0, w1, w2, List.size_toArray]
  have hg1 : ((h.alloc { cells := [.int .u8 n0, .int .u8 n1], esz := 0 }).alloc { cells := [], esz := 0 }).get h.next = some { cells := [.int .u8 n0, .int .u8 n1], esz := 0 } := by simp [Heap.alloc]
  have k1 : Ok ((h.alloc { cells := [.int .u8 n0, .int .u8 n1], esz := 0 }).alloc { cells := [], esz := 0 }) := (k.alloc _).alloc _
  have x1 : Ext h ((h.alloc { cells := [.int .u8 n0, .int .u8 n1], esz := 0 }).alloc { cells := [], esz := 0 }) := (Ext.alloc _ _).alloc' _
  have e1 : Own ((h.alloc { cells := [.int .u8 n0, .int .u8 n1], esz := 0 }).alloc { cells := [], esz := 0 }) ((h.alloc { cells := [.int .u8 n0, .int .u8 n1], esz := 0 }).alloc { cells := [], esz := 0 }) (.slice (some ⟨h.next + 1, 0, none⟩) 0 0) 0 1 [] := Own.empty _ _ _ _
  have hb1 : h.base ≤ h.next := k.le
  have hbase : ((h.alloc { cells := [.int .u8 n0, .int .u8 n1], esz := 0 }).alloc { cells := [], esz := 0 }).base = h.base := rfl
  have hp : h.next < ((h.alloc { cells := [.int .u8 n0, .int .u8 n1], esz := 0 }).alloc { cells := [], esz := 0 }).next := by simp [Heap.alloc]; omega
  have hx1 := Reads.ext x1 k hx
  generalize (h.alloc { cells := [.int .u8 n0, .int .u8 n1], esz := 0 }).alloc { cells := [], esz := 0 } = g1 at *
  generalize h.next = p0 at *
  generalize hK : n0 % 4 + 1 = K at *
  have hK1 : 1 ≤ K ∧ K ≤ 4 := by omega
  refine wp_loop Call.mono (fun q ρ g => ρ 1 = x ∧ ρ 2 = .bool c ∧ ρ 3 = .pointer (some ⟨p0, 0, none⟩) ∧ ρ 7 = .int .i64 K ∧ Ext g1 g ∧ Ok g ∧ ∃ i : Nat, ρ 9 = .int .i64 i ∧ i + q = min xs.length 200 ∧ Own g1 g (ρ 8) i 1 ((((xs.take i).map (· % K)).map Int.ofNat).map (.int .i64))) ?_ (m := min xs.length 200) ⟨rfl, rfl, rfl, rfl, .refl _, k1, 0, rfl, by omega, e1⟩
  rintro q ρ g ⟨q1, q2, q3, q7, xg, kg, i, q9, hq, own⟩
  unfold b3_1
  have hl := hx.len
  by_cases c1 : i < xs.length ∧ i < 200
  · obtain ⟨c1, c2⟩ := c1
    have c2' : (i : Int) < 200 := by omega
    obtain ⟨p, a1, a2⟩ := Bytes.at (show Bytes g x xs from Reads.ext xg k1 hx1) c1
    have hy : xs.getD i 0 < 256 := by rw [getD_in c1]; exact hxs _ (List.getElem_mem c1)
    have v1 : IntKind.wrap .i64 ((xs.getD i 0 : Nat) : Int) = (xs.getD i 0 : Nat) := by rw [wrap_in] <;> omega
    have v2 : Int.tmod ((xs.getD i 0 : Nat) : Int) (K : Int) = ((xs.getD i 0 % K : Nat) : Int) := mod_int
    have v3 : ¬ (K : Int) = 0 := by omega
    have v4 : IntKind.wrap .i64 ((i : Int) + 1) = ((i + 1 : Nat) : Int) := by rw [wrap_in] <;> omega
    obtain ⟨v', g', hap, own', xg', kg'⟩ := Own.push (h0 := g1) xg kg (bytes := 8) (news := [.int .i64 (xs.getD i 0 % K : Nat)]) own rfl rfl (by omega) (by omega) (by omega)
    simp only [rowOf_eq] at hap
    have htk : ((((xs.take (i + 1)).map (· % K)).map Int.ofNat).map (Value.int .i64)) = ((((xs.take i).map (· % K)).map Int.ofNat).map (.int .i64)) ++ [.int .i64 (xs.getD i 0 % K : Nat)] := by
      rw [List.take_succ_eq_append_getElem c1, getD_in c1]; simp only [List.map_append, List.map_cons, List.map_nil]; rfl
    simp only [bnd_none, bnd_tmp', bnd_const, enter_zero, enter_succ, undef, ↓wpC_seq, ↓wpC_region, ↓wpC_cond, ↓wpC_block, ↓wpC_skip, ↓wpC_exit, ↓wpC_ret, ↓seqP_normal, ↓seqP_exit, ↓seqP_ret, ↓blockP_normal, ↓blockP_exit, ↓blockP_ret, ↓endP_normal, ↓endP_ret, ↓wpOps_nil, ↓wpOps_p, ↓wpOps_l, ↓wpOps_a, ↓wpOps_e, ↓wpOps_c, ↓wpOps_i, ↓wpOps_g, ↓Rest_apply, ↓pop_eqi, ↓pop_tas, ↓pop_iaddr, ↓pop_len, ↓pop_aaddr, aaddrA_ptr, lenA_slice, ↓pop_mov, ↓pop_pick, ↓pop_bin, ↓pop_eqv, ↓pop_not, ↓pop_neg, ↓pop_conv, ↓pop_ext, ↓pop_nilc, ↓pop_faddr, ↓pop_slice, ↓pop_mn, ↓pop_mx, ↓pop_mkif, ↓pop_mkfn, ↓eop_store, ↓eop_append, ↓eop_copy, ↓eop_clear, ↓alop_var, ↓alop_box, ↓alop_bslice, ↓alop_mslice, ↓pop_build, fillA_nil, fillA_cons, ptrTo_eq, rowOf_eq, made_zero, made_one, made_two, made_three, made_pair, cells_int, cells_bool, cells_ptr, cells_slice, cells_iface, cells_niliface, cells_agg, cells_agg', one_int, one_bool, one_ptr, one_slice, one_iface, one_niliface, ↓ev_tmp, ↓ev_const, ↓ev_func, ↓ev_global, ↓put_get, ↓put_none, ↓want_some, ↓keepOk_nil, ↓keepOk_cons, ↓resList_nil, ↓resList_cons, ↓resA_tmp, ↓resA_cell, oneOrTuple_one, oneOrTuple_two, iop, decide_eq_true_eq, Bool.not_eq_true', decide_eq_false_iff_not, bne_iff_ne, beq_iff_eq, beq_true, beq_false, ne_eq, not_true_eq_false, not_false_eq_true,  if_true, if_false, ↓reduceIte, Bool.false_eq_true, Bool.not_true, Bool.not_false, Nat.reduceEqDiff, beq_self_eq_true, bne_self_eq_false, reduceCtorEq, Option.some.injEq, true_and, and_true, false_and, and_false, false_or, true_or, or_true, isShift, or_false, Int.ofNat_lt, Int.ofNat_le, Int.natCast_nonneg, Int.toNat_natCast, decide_true, decide_false, Nat.reduceAdd, Nat.reduceMul, Nat.reduceSub, Nat.reduceLT, Nat.reduceLeDiff, Nat.zero_add, Nat.add_zero, Nat.mul_one, List.length_cons, List.length_nil, List.take_zero, List.drop_zero, List.take_succ_cons, List.drop_succ_cons, List.take_nil, List.drop_nil, List.getElem?_cons_zero, List.getElem?_cons_succ, List.set_cons_zero, List.set_cons_succ, Int.reduceLT, Int.reduceLE, Int.reduceEq, Int.reduceGT, Int.reduceGE, Int.reduceNeg, Int.reduceToNat, Nat.zero_mul, List.map_cons, List.map_nil, List.nil_append, List.append_nil, List.cons_append, List.toList_toArray, ones_nil, ones_cons, Nat.le_refl, load1, loadN, store1, storeN, Heap.get_alloc, Heap.get_put, Heap.next_alloc, Heap.next_put, Heap.base_alloc, Heap.base_put, r3_3, r3_4, r3_5, q1, q2, q3, q7, q9, hl, c1, c2', a1, a2, v1, v2, v3, v4, hap]
    exact ⟨q - 1, by omega, xg', kg', i + 1, rfl, by omega, by rw [htk]; exact own'⟩
  · have hlen : ((xs.take i).map (· % K)).length = i := by simp; omega
    have hK2 : ∀ y ∈ (xs.take i).map (· % K), y < K := fun y hy => by
      obtain ⟨z, _, rfl⟩ := List.mem_map.1 hy
      exact Nat.mod_lt _ (by omega)
    by_cases c3 : i < xs.length
    · have c2' : ¬ (i : Int) < 200 := by omega
      simp only [bnd_none, bnd_tmp', bnd_const, enter_zero, enter_succ, undef, ↓wpC_seq, ↓wpC_region, ↓wpC_cond, ↓wpC_block, ↓wpC_skip, ↓wpC_exit, ↓wpC_ret, ↓seqP_normal, ↓seqP_exit, ↓seqP_ret, ↓blockP_normal, ↓blockP_exit, ↓blockP_ret, ↓endP_normal, ↓endP_ret, ↓wpOps_nil, ↓wpOps_p, ↓wpOps_l, ↓wpOps_a, ↓wpOps_e, ↓wpOps_c, ↓wpOps_i, ↓wpOps_g, ↓Rest_apply, ↓pop_eqi, ↓pop_tas, ↓pop_iaddr, ↓pop_len, ↓pop_aaddr, aaddrA_ptr, lenA_slice, ↓pop_mov, ↓pop_pick, ↓pop_bin, ↓pop_eqv, ↓pop_not, ↓pop_neg, ↓pop_conv, ↓pop_ext, ↓pop_nilc, ↓pop_faddr, ↓pop_slice, ↓pop_mn, ↓pop_mx, ↓pop_mkif, ↓pop_mkfn, ↓eop_store, ↓eop_append, ↓eop_copy, ↓eop_clear, ↓alop_var, ↓alop_box, ↓alop_bslice, ↓alop_mslice, ↓pop_build, fillA_nil, fillA_cons, ptrTo_eq, rowOf_eq, made_zero, made_one, made_two, made_three, made_pair, cells_int, cells_bool, cells_ptr, cells_slice, cells_iface, cells_niliface, cells_agg, cells_agg', one_int, one_bool, one_ptr, one_slice, one_iface, one_niliface, ↓ev_tmp, ↓ev_const, ↓ev_func, ↓ev_global, ↓put_get, ↓put_none, ↓want_some, ↓keepOk_nil, ↓keepOk_cons, ↓resList_nil, ↓resList_cons, ↓resA_tmp, ↓resA_cell, oneOrTuple_one, oneOrTuple_two, iop, decide_eq_true_eq, Bool.not_eq_true', decide_eq_false_iff_not, bne_iff_ne, beq_iff_eq, beq_true, beq_false, ne_eq, not_true_eq_false, not_false_eq_true,  if_true, if_false, ↓reduceIte, Bool.false_eq_true, Bool.not_true, Bool.not_false, Nat.reduceEqDiff, beq_self_eq_true, bne_self_eq_false, reduceCtorEq, Option.some.injEq, true_and, and_true, false_and, and_false, false_or, true_or, or_true, isShift, or_false, Int.ofNat_lt, Int.ofNat_le, Int.natCast_nonneg, Int.toNat_natCast, decide_true, decide_false, Nat.reduceAdd, Nat.reduceMul, Nat.reduceSub, Nat.reduceLT, Nat.reduceLeDiff, Nat.zero_add, Nat.add_zero, Nat.mul_one, List.length_cons, List.length_nil, List.take_zero, List.drop_zero, List.take_succ_cons, List.drop_succ_cons, List.take_nil, List.drop_nil, List.getElem?_cons_zero, List.getElem?_cons_succ, List.set_cons_zero, List.set_cons_succ, Int.reduceLT, Int.reduceLE, Int.reduceEq, Int.reduceGT, Int.reduceGE, Int.reduceNeg, Int.reduceToNat, Nat.zero_mul, List.map_cons, List.map_nil, List.nil_append, List.append_nil, List.cons_append, List.toList_toArray, ones_nil, ones_cons, Nat.le_refl, load1, loadN, store1, storeN, Heap.get_alloc, Heap.get_put, Heap.next_alloc, Heap.next_put, Heap.base_alloc, Heap.base_put, r3_3, q1, q2, q3, q7, q9, hl, c3, c2']
      generalize hρ' : put _ _ _ = ρ2
      have z2 : ρ2 2 = ρ 2 := by rw [← hρ']; rfl
      have z3 : ρ2 3 = ρ 3 := by rw [← hρ']; rfl
      have z7 : ρ2 7 = ρ 7 := by rw [← hρ']; rfl
      have z8 : ρ2 8 = ρ 8 := by rw [← hρ']; rfl
      have N := next ρ2 g1 g p0 (ρ 8) ((xs.take i).map (· % K)) K kg (by have := xg.next; omega) (by rw [xg.base, hbase]; exact hb1) (by rw [xg.get _ hp]; exact hg1) (z2.trans q2) (z3.trans q3) (z7.trans q7) z8 hK1 (by rw [hlen]; omega) hK2 (by rw [hlen]; exact own)
      unfold tail1 f3 at N
      simp only [↓wpC_seq, ↓wpC_region] at N
      exact N
    · simp only [bnd_none, bnd_tmp', bnd_const, enter_zero, enter_succ, undef, ↓wpC_seq, ↓wpC_region, ↓wpC_cond, ↓wpC_block, ↓wpC_skip, ↓wpC_exit, ↓wpC_ret, ↓seqP_normal, ↓seqP_exit, ↓seqP_ret, ↓blockP_normal, ↓blockP_exit, ↓blockP_ret, ↓endP_normal, ↓endP_ret, ↓wpOps_nil, ↓wpOps_p, ↓wpOps_l, ↓wpOps_a, ↓wpOps_e, ↓wpOps_c, ↓wpOps_i, ↓wpOps_g, ↓Rest_apply, ↓pop_eqi, ↓pop_tas, ↓pop_iaddr, ↓pop_len, ↓pop_aaddr, aaddrA_ptr, lenA_slice, ↓pop_mov, ↓pop_pick, ↓pop_bin, ↓pop_eqv, ↓pop_not, ↓pop_neg, ↓pop_conv, ↓pop_ext, ↓pop_nilc, ↓pop_faddr, ↓pop_slice, ↓pop_mn, ↓pop_mx, ↓pop_mkif, ↓pop_mkfn, ↓eop_store, ↓eop_append, ↓eop_copy, ↓eop_clear, ↓alop_var, ↓alop_box, ↓alop_bslice, ↓alop_mslice, ↓pop_build, fillA_nil, fillA_cons, ptrTo_eq, rowOf_eq, made_zero, made_one, made_two, made_three, made_pair, cells_int, cells_bool, cells_ptr, cells_slice, cells_iface, cells_niliface, cells_agg, cells_agg', one_int, one_bool, one_ptr, one_slice, one_iface, one_niliface, ↓ev_tmp, ↓ev_const, ↓ev_func, ↓ev_global, ↓put_get, ↓put_none, ↓want_some, ↓keepOk_nil, ↓keepOk_cons, ↓resList_nil, ↓resList_cons, ↓resA_tmp, ↓resA_cell, oneOrTuple_one, oneOrTuple_two, iop, decide_eq_true_eq, Bool.not_eq_true', decide_eq_false_iff_not, bne_iff_ne, beq_iff_eq, beq_true, beq_false, ne_eq, not_true_eq_false, not_false_eq_true,  if_true, if_false, ↓reduceIte, Bool.false_eq_true, Bool.not_true, Bool.not_false, Nat.reduceEqDiff, beq_self_eq_true, bne_self_eq_false, reduceCtorEq, Option.some.injEq, true_and, and_true, false_and, and_false, false_or, true_or, or_true, isShift, or_false, Int.ofNat_lt, Int.ofNat_le, Int.natCast_nonneg, Int.toNat_natCast, decide_true, decide_false, Nat.reduceAdd, Nat.reduceMul, Nat.reduceSub, Nat.reduceLT, Nat.reduceLeDiff, Nat.zero_add, Nat.add_zero, Nat.mul_one, List.length_cons, List.length_nil, List.take_zero, List.drop_zero, List.take_succ_cons, List.drop_succ_cons, List.take_nil, List.drop_nil, List.getElem?_cons_zero, List.getElem?_cons_succ, List.set_cons_zero, List.set_cons_succ, Int.reduceLT, Int.reduceLE, Int.reduceEq, Int.reduceGT, Int.reduceGE, Int.reduceNeg, Int.reduceToNat, Nat.zero_mul, List.map_cons, List.map_nil, List.nil_append, List.append_nil, List.cons_append, List.toList_toArray, ones_nil, ones_cons, Nat.le_refl, load1, loadN, store1, storeN, Heap.get_alloc, Heap.get_put, Heap.next_alloc, Heap.next_put, Heap.base_alloc, Heap.base_put, r3_3, q1, q2, q3, q7, q9, hl, c3]
      generalize hρ' : put _ _ _ = ρ2
      have z2 : ρ2 2 = ρ 2 := by rw [← hρ']; rfl
      have z3 : ρ2 3 = ρ 3 := by rw [← hρ']; rfl
      have z7 : ρ2 7 = ρ 7 := by rw [← hρ']; rfl
      have z8 : ρ2 8 = ρ 8 := by rw [← hρ']; rfl
      have N := next ρ2 g1 g p0 (ρ 8) ((xs.take i).map (· % K)) K kg (by have := xg.next; omega) (by rw [xg.base, hbase]; exact hb1) (by rw [xg.get _ hp]; exact hg1) (z2.trans q2) (z3.trans q3) (z7.trans q7) z8 hK1 (by rw [hlen]; omega) hK2 (by rw [hlen]; exact own)
      unfold tail1 f3 at N
      simp only [↓wpC_seq, ↓wpC_region] at N
      exact N

end Go.AM.Q
