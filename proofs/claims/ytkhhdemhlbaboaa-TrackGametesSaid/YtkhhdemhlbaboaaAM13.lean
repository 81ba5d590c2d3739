/- The abstract machine, part 13: what slices read as; memory that only grows. -/
import Derived.Test.YtkhhdemhlbaboaaAM12
set_option linter.unusedVariables false
set_option linter.unusedSimpArgs false
namespace Go.AM

/-! ### One step at a time -/
section
variable {C : CallP} {Q : Post} {ρ : Nat → Value} {h : Heap}
theorem wpC_skip : wpC C .skip Q ρ h = Q .normal ρ h := _root_.id rfl
theorem wpC_region {ops : List AOper} : wpC C (.region ops) Q ρ h = wpOps C ops Q ρ h := _root_.id rfl
theorem wpC_seq {a b : ACode} : wpC C (.seq a b) Q ρ h = wpC C a (seqP (wpC C b Q) Q) ρ h := _root_.id rfl
theorem wpC_block {id : Nat} {c : ACode} : wpC C (.block id c) Q ρ h = wpC C c (blockP id Q) ρ h := _root_.id rfl
theorem wpC_exit {id : Nat} : wpC C (.exit id) Q ρ h = Q (.exit id) ρ h := _root_.id rfl
theorem wpC_ret : wpC C .ret Q ρ h = Q .ret ρ h := _root_.id rfl
theorem wpC_cond {c : Operand} {a b : ACode} : wpC C (.cond c a b) Q ρ h = (match ev ρ c with
    | .bool t => if t = true then wpC C a Q ρ h else wpC C b Q ρ h
    | _ => False) := _root_.id rfl
theorem seqP_normal {K : (Nat → Value) → Heap → Prop} : seqP K Q .normal ρ h = K ρ h := _root_.id rfl
theorem seqP_exit {K : (Nat → Value) → Heap → Prop} {i : Nat} : seqP K Q (.exit i) ρ h = Q (.exit i) ρ h := _root_.id rfl
theorem seqP_ret {K : (Nat → Value) → Heap → Prop} : seqP K Q .ret ρ h = Q .ret ρ h := _root_.id rfl
theorem blockP_normal {i : Nat} : blockP i Q .normal ρ h = Q .normal ρ h := _root_.id rfl
theorem blockP_exit {i j : Nat} : blockP i Q (.exit j) ρ h = if j = i then Q .normal ρ h else Q (.exit j) ρ h := _root_.id rfl
theorem blockP_ret {i : Nat} : blockP i Q .ret ρ h = Q .ret ρ h := _root_.id rfl
theorem endP_normal {rs : List ARes} {R : Value → Heap → Prop} : endP rs R .normal ρ h = (match resList ρ h rs with
    | some vs => R (oneOrTuple vs) h
    | none => False) := _root_.id rfl
theorem endP_ret {rs : List ARes} {R : Value → Heap → Prop} : endP rs R .ret ρ h = (match resList ρ h rs with
    | some vs => R (oneOrTuple vs) h
    | none => False) := _root_.id rfl
theorem wpOps_nil : wpOps C [] Q ρ h = Q .normal ρ h := _root_.id rfl
theorem wpOps_cons {o : AOper} {r : List AOper} : wpOps C (o :: r) Q ρ h = if want ρ o.guard = true then wpOp C o ρ h (fun v h' => wpOps C r Q (put ρ o.dst v) h') else wpOps C r Q (put ρ o.dst undef) h := _root_.id rfl
/-- An operation without a guard. -/
theorem wpOps_free {d : Option Nat} {p : AOp} {k : List (Operand × Nat)} {r : List AOper} : wpOps C (⟨d, none, p, k⟩ :: r) Q ρ h = wpOp C ⟨d, none, p, k⟩ ρ h (fun v h' => wpOps C r Q (put ρ d v) h') := _root_.id rfl
theorem wpOps_guard {d : Option Nat} {s : Nat} {b : Bool} {p : AOp} {k : List (Operand × Nat)} {r : List AOper} : wpOps C (⟨d, some (s, b), p, k⟩ :: r) Q ρ h =
    if want ρ (some (s, b)) = true then wpOp C ⟨d, some (s, b), p, k⟩ ρ h (fun v h' => wpOps C r Q (put ρ d v) h') else wpOps C r Q (put ρ d undef) h := _root_.id rfl
variable {K : Value → Heap → Prop} {d : Option Nat} {g : Option (Nat × Bool)} {k : List (Operand × Nat)}
theorem wpOp_p {q : POp} : wpOp C ⟨d, g, .p q, k⟩ ρ h K = (match pop q ρ with
    | some v => K v h
    | none => False) := _root_.id rfl
theorem wpOp_l {n : Nat} {agg : Bool} {x : Operand} : wpOp C ⟨d, g, .l n agg x, k⟩ ρ h K = (match loadA h n agg (ev ρ x) with
    | some v => K v h
    | none => False) := _root_.id rfl
theorem wpOp_a {q : AlOp} : wpOp C ⟨d, g, .a q, k⟩ ρ h K = (match alop q ρ with
    | some (cs, f) => K (f h.next) (h.alloc { cells := cs, esz := 0 })
    | none => False) := _root_.id rfl
theorem wpOp_e {q : EOp} : wpOp C ⟨d, g, .e q, k⟩ ρ h K = (match eop q ρ h with
    | some (v, h') => keepOk h h' ρ k ∧ K v h'
    | none => False) := _root_.id rfl
theorem wpOp_c {f : Operand} {as : List Operand} : wpOp C ⟨d, g, .c f as, k⟩ ρ h K = (match ev ρ f with
    | .func (.func fid) first captured => C fid (first.toList ++ as.map (ev ρ) ++ captured.toList) h fun v h' => keepOk h h' ρ k ∧ K v h'
    | _ => False) := _root_.id rfl
/-- The address of an element. -/
def iaddrA (esz : Nat) (v i : Value) : Option Value :=
  match v, i with
  | .slice (some ⟨b, o, _⟩) l _, .int _ n => if 0 ≤ n ∧ n < (l : Int) then some (.pointer (some ⟨b, o + n.toNat * esz, none⟩)) else none
  | _, _ => none
/-- What is left of a region behind a call. -/
def Rest (C : CallP) (r : List AOper) (Q : Post) (ρ : Nat → Value) (h : Heap) (d : Option Nat) (k : List (Operand × Nat)) : Value → Heap → Prop := fun v h' => keepOk h h' ρ k ∧ wpOps C r Q (put ρ d v) h'
theorem Rest_apply {r : List AOper} {v : Value} {h' : Heap} : Rest C r Q ρ h d k v h' = (keepOk h h' ρ k ∧ wpOps C r Q (put ρ d v) h') := _root_.id rfl
theorem wpOps_p {r : List AOper} {q : POp} : wpOps C (⟨d, none, .p q, k⟩ :: r) Q ρ h = (match pop q ρ with
    | some v => wpOps C r Q (put ρ d v) h
    | none => False) := _root_.id rfl
theorem wpOps_l {r : List AOper} {n : Nat} {agg : Bool} {x : Operand} : wpOps C (⟨d, none, .l n agg x, k⟩ :: r) Q ρ h = (match loadA h n agg (ev ρ x) with
    | some v => wpOps C r Q (put ρ d v) h
    | none => False) := _root_.id rfl
theorem wpOps_a {r : List AOper} {q : AlOp} : wpOps C (⟨d, none, .a q, k⟩ :: r) Q ρ h = (match alop q ρ with
    | some (cs, f) => wpOps C r Q (put ρ d (f h.next)) (h.alloc { cells := cs, esz := 0 })
    | none => False) := _root_.id rfl
theorem wpOps_e {r : List AOper} {q : EOp} : wpOps C (⟨d, none, .e q, k⟩ :: r) Q ρ h = (match eop q ρ h with
    | some (v, h') => keepOk h h' ρ k ∧ wpOps C r Q (put ρ d v) h'
    | none => False) := _root_.id rfl
theorem wpOps_c {r : List AOper} {f : Operand} {as : List Operand} : wpOps C (⟨d, none, .c f as, k⟩ :: r) Q ρ h = (match ev ρ f with
    | .func (.func fid) first captured => C fid (first.toList ++ as.map (ev ρ) ++ captured.toList) h (Rest C r Q ρ h d k)
    | _ => False) := _root_.id rfl
theorem wpOps_i {r : List AOper} {x : Operand} {tbl : List (TypeId × FuncId)} {as : List Operand} : wpOps C (⟨d, none, .i x tbl as, k⟩ :: r) Q ρ h = (match ev ρ x with
    | .iface t v => match tbl.lookup t with
      | some fid => C fid (v :: as.map (ev ρ)) h (Rest C r Q ρ h d k)
      | none => False
    | _ => False) := _root_.id rfl
theorem wpOps_g {r : List AOper} {s : Nat} {b : Bool} {o : AOp} : wpOps C (⟨d, some (s, b), o, k⟩ :: r) Q ρ h = if want ρ (some (s, b)) = true then wpOps C (⟨d, none, o, k⟩ :: r) Q ρ h else wpOps C r Q (put ρ d undef) h := _root_.id rfl
theorem wpOp_i {x : Operand} {tbl : List (TypeId × FuncId)} {as : List Operand} : wpOp C ⟨d, g, .i x tbl as, k⟩ ρ h K = (match ev ρ x with
    | .iface t v => match tbl.lookup t with
      | some fid => C fid (v :: as.map (ev ρ)) h fun v h' => keepOk h h' ρ k ∧ K v h'
      | none => False
    | _ => False) := _root_.id rfl
theorem pop_eqi {neg : Bool} {ts : List TypeId} {x y : Operand} : pop (.eqi neg ts x y) ρ = (match eqIA ts (ev ρ x) (ev ρ y) with
    | some b => some (.bool (if neg then !b else b))
    | none => none) := _root_.id rfl
theorem pop_tas {t : TypeId} {z : Value} {ok : Bool} {x : Operand} : pop (.tas t z ok x) ρ = tasA t z ok (ev ρ x) := _root_.id rfl
theorem pop_iaddr {esz : Nat} {x i : Operand} : pop (.iaddr esz x i) ρ = iaddrA esz (ev ρ x) (ev ρ i) := _root_.id rfl
theorem pop_len {x : Operand} : pop (.len x) ρ = (match lenA (ev ρ x) with
    | some l => some (.int .i64 l)
    | none => none) := by
  simp only [pop]
  cases ev ρ x <;> rfl
theorem lenA_slice {a : Option Addr} {n c : Nat} : lenA (.slice a n c) = some n := _root_.id rfl
theorem pop_mov {x : Operand} : pop (.mov x) ρ = some (ev ρ x) := _root_.id rfl
theorem pop_pick {c a b : Operand} : pop (.pick c a b) ρ = (match ev ρ c with
    | .bool t => some (if t = true then ev ρ a else ev ρ b)
    | _ => none) := _root_.id rfl
theorem pop_bin {op : BinOp} {x y : Operand} : pop (.bin op x y) ρ = (match ev ρ x, ev ρ y with
    | .int k a, .int k' b => if k = k' ∨ isShift op = true then iop op k a b else none
    | _, _ => none) := _root_.id rfl
theorem pop_eqv {neg : Bool} {t : EqT} {x y : Operand} : pop (.eqv neg t x y) ρ = (match eqA t (ev ρ x) (ev ρ y) with
    | some b => some (.bool (if neg then !b else b))
    | none => none) := _root_.id rfl
theorem pop_not {x : Operand} : pop (.not x) ρ = (match ev ρ x with
    | .bool b => some (.bool !b)
    | _ => none) := _root_.id rfl
theorem pop_neg {x : Operand} : pop (.neg x) ρ = (match ev ρ x with
    | .int k n => some (.int k (k.wrap (0 - n)))
    | _ => none) := _root_.id rfl
theorem pop_conv {k : IntKind} {x : Operand} : pop (.conv k x) ρ = (match ev ρ x with
    | .int _ n => some (.int k (k.wrap n))
    | _ => none) := _root_.id rfl
theorem pop_ext {i : Nat} {x : Operand} : pop (.ext x i) ρ = (match ev ρ x with
    | .tuple vs => vs.toList[i]?
    | _ => none) := _root_.id rfl
theorem pop_nilc {x : Operand} : pop (.nilc x) ρ = (match ev ρ x with
    | .pointer (some a) => some (.pointer (some a))
    | _ => none) := _root_.id rfl
theorem pop_faddr {n : Nat} {x : Operand} : pop (.faddr n x) ρ = (match ev ρ x with
    | .pointer (some ⟨b, o, none⟩) => some (.pointer (some ⟨b, o + n, none⟩))
    | _ => none) := _root_.id rfl
theorem pop_slice {n : Nat} {x : Operand} {lo hi mx : Option Operand} : pop (.slice n x lo hi mx) ρ = sliceA n (ev ρ x) lo hi mx ρ := _root_.id rfl
theorem pop_mn {x y : Operand} : pop (.mn x y) ρ = (match ev ρ x, ev ρ y with
    | .int k a, .int _ b => some (.int k (if b < a then b else a))
    | _, _ => none) := _root_.id rfl
theorem pop_mx {x y : Operand} : pop (.mx x y) ρ = (match ev ρ x, ev ρ y with
    | .int k a, .int _ b => some (.int k (if b > a then b else a))
    | _, _ => none) := _root_.id rfl
theorem pop_mkif {t : TypeId} {x : Operand} : pop (.mkif t x) ρ = some (.iface t (ev ρ x)) := _root_.id rfl
theorem pop_mkfn {f : FuncId} {a b : List Operand} : pop (.mkfn f a b) ρ = some (.func (.func f) (a.map (ev ρ)).toArray (b.map (ev ρ)).toArray) := _root_.id rfl
theorem put_get {i j : Nat} {v : Value} : put ρ (some i) v j = if j = i then v else ρ j := _root_.id rfl
theorem put_none {v : Value} : put ρ none v = ρ := _root_.id rfl
theorem ev_tmp {t : Nat} : ev ρ (.tmp t) = ρ t := _root_.id rfl
theorem ev_const {v : Value} : ev ρ (.const v) = v := _root_.id rfl
theorem ev_func {f : FuncId} : ev ρ (.func f) = .func (.func f) #[] #[] := _root_.id rfl
theorem ev_global {f : Nat} : ev ρ (.global f) = .pointer (some ⟨f, 0, none⟩) := _root_.id rfl
theorem want_none : want ρ none = true := _root_.id rfl
theorem want_some {s : Nat} {b : Bool} : want ρ (some (s, b)) = (match ρ s with
    | .bool t => t == b
    | _ => false) := _root_.id rfl
theorem keepOk_nil {h' : Heap} : keepOk h h' ρ [] = True := _root_.id rfl
theorem keepOk_cons {h' : Heap} {x : Operand} {n : Nat} {r : List (Operand × Nat)} : keepOk h h' ρ ((x, n) :: r) = (rdA h (ev ρ x) n = rdA h' (ev ρ x) n ∧ keepOk h h' ρ r) := _root_.id rfl
theorem resA_tmp {t : Nat} : resA ρ h (.tmp t) = some (ρ t) := _root_.id rfl
theorem resA_cell {n t : Nat} {g : Bool} : resA ρ h (.cell n g t) = loadA h n g (ρ t) := _root_.id rfl
theorem resList_nil : resList ρ h [] = some [] := _root_.id rfl
theorem resList_cons {r : ARes} {rs : List ARes} : resList ρ h (r :: rs) = (match resA ρ h r, resList ρ h rs with
    | some v, some l => some (v :: l)
    | _, _ => none) := _root_.id rfl
theorem oneOrTuple_one {v : Value} : oneOrTuple [v] = v := _root_.id rfl
theorem oneOrTuple_two {u v : Value} : oneOrTuple [u, v] = .tuple #[u, v] := _root_.id rfl
theorem enter_zero {v : Value} {l : List Value} : enter (v :: l) 0 = v := _root_.id rfl
theorem enter_succ {v : Value} {l : List Value} {i : Nat} : enter (v :: l) (i + 1) = enter l i := _root_.id rfl
theorem enter_nil {i : Nat} : enter [] i = undef := _root_.id rfl
theorem Call_congr {T : FuncId → Option AFn} {f : FuncId} {a a' : List Value} {h : Heap} {R : Value → Heap → Prop} (e : a = a') : Call T f a h R = Call T f a' h R := by rw [e]
theorem ite_cond {α : Sort _} {c c' : Prop} [Decidable c] [Decidable c'] {a b : α} (e : c = c') : ite c a b = ite c' a b := by subst e; congr
end
attribute [congr] Call_congr

/-! ### Memory -/
structure Ok (h : Heap) : Prop where
  wf : Wf h
  le : h.base ≤ h.next

theorem Ok.grows {h h' : Heap} (k : Ok h) (g : Grows h h') : Ok h' := ⟨g.wf k.wf, by have := g.base; have := g.next; have := k.le; omega⟩
theorem Ok.lt {h : Heap} (k : Ok h) {b : Nat} {o : Blk} (hb : h.get b = some o) : b < h.next := by
  rcases Nat.lt_or_ge b h.next with h1 | h1
  · exact h1
  · rw [k.wf b h1] at hb; cases hb

/-- What was there is as it was. -/
structure Ext (h h' : Heap) : Prop where
  base : h'.base = h.base
  next : h.next ≤ h'.next
  get : ∀ b, b < h.next → h'.get b = h.get b

theorem Ext.refl (h : Heap) : Ext h h := ⟨rfl, Nat.le_refl _, fun _ _ => rfl⟩
theorem Ext.trans {a b c : Heap} (x : Ext a b) (y : Ext b c) : Ext a c := ⟨y.base.trans x.base, Nat.le_trans x.next y.next, fun i hi => (y.get i (Nat.lt_of_lt_of_le hi x.next)).trans (x.get i hi)⟩
theorem Ext.alloc (h : Heap) (o : Blk) : Ext h (h.alloc o) := ⟨rfl, by simp [Heap.alloc], fun b hb => by simp only [Heap.alloc]; rw [if_neg (by omega)]⟩
theorem Ext.alloc' {a h : Heap} (x : Ext a h) (o : Blk) : Ext a (h.alloc o) := x.trans (.alloc h o)
theorem Ext.put {a h : Heap} (x : Ext a h) {b : Nat} (hb : a.next ≤ b) (o : Blk) : Ext a (h.put b o) := ⟨x.base, x.next, fun i hi => by simp only [Heap.put]; rw [if_neg (by omega)]; exact x.get i hi⟩
theorem Ext.kill {a h : Heap} (x : Ext a h) {b : Nat} (hb : a.next ≤ b) : Ext a (h.kill b) := ⟨x.base, x.next, fun i hi => by simp only [Heap.kill]; rw [if_neg (by omega)]; exact x.get i hi⟩
theorem Ok.alloc {h : Heap} (k : Ok h) (o : Blk) : Ok (h.alloc o) := k.grows (.alloc h o)
theorem Ok.kill {h : Heap} (k : Ok h) (b : Nat) : Ok (h.kill b) := k.grows (.kill h b)
theorem Ok.put {h : Heap} (k : Ok h) {b : Nat} (hb : b < h.next) (o : Blk) : Ok (h.put b o) := ⟨fun i hi => by
  simp only [Heap.put] at *
  rw [if_neg (by omega)]; exact k.wf i hi, k.le⟩

theorem Heap.get_alloc (h : Heap) (o : Blk) (b : Nat) : (h.alloc o).get b = if b = h.next then some o else h.get b := _root_.id rfl
theorem Heap.get_put (h : Heap) (o : Blk) (b c : Nat) : (h.put c o).get b = if b = c then some o else h.get b := _root_.id rfl
theorem Heap.get_kill (h : Heap) (b c : Nat) : (h.kill c).get b = if b = c then none else h.get b := _root_.id rfl
theorem Heap.next_alloc (h : Heap) (o : Blk) : (h.alloc o).next = h.next + 1 := _root_.id rfl
theorem Heap.next_put (h : Heap) (o : Blk) (c : Nat) : (h.put c o).next = h.next := _root_.id rfl
theorem Heap.next_kill (h : Heap) (c : Nat) : (h.kill c).next = h.next := _root_.id rfl
theorem Heap.base_alloc (h : Heap) (o : Blk) : (h.alloc o).base = h.base := _root_.id rfl
theorem Heap.base_put (h : Heap) (o : Blk) (c : Nat) : (h.put c o).base = h.base := _root_.id rfl
theorem Heap.base_kill (h : Heap) (c : Nat) : (h.kill c).base = h.base := _root_.id rfl

theorem Ext.read {h h' : Heap} (x : Ext h h') (k : Ok h) {b o n : Nat} {cs : List Value} (hr : h.read b o n = some cs) : h'.read b o n = some cs := by
  unfold Heap.read Heap.cells at *
  cases hg : h.get b with
  | none => simp [hg] at hr
  | some blk =>
    rw [x.get b (k.lt hg), x.base]
    exact hr

theorem read_own {h : Heap} {b : Nat} {blk : Blk} (hb : h.base ≤ b) (hg : h.get b = some blk) {o n : Nat} (hn : o + n ≤ blk.cells.length) : h.read b o n = some ((blk.cells.drop o).take n) := by
  unfold Heap.read Heap.cells
  simp [hg, hn, hb]

theorem read_sub {h : Heap} {b o n : Nat} {cs : List Value} (hr : h.read b o n = some cs) {i m : Nat} (hi : i + m ≤ n) : h.read b (o + i) m = some ((cs.drop i).take m) := by
  unfold Heap.read Heap.cells at *
  cases hg : h.get b with
  | none => simp [hg] at hr
  | some blk =>
    simp only [hg] at hr ⊢
    by_cases hle : o + n ≤ blk.cells.length
    · simp only [hle, if_true] at hr
      rw [if_pos (by omega)]
      have e : (blk.cells.drop (o + i)).take m = (((blk.cells.drop o).take n).drop i).take m := by
        rw [List.drop_take, List.drop_drop, List.take_take, Nat.min_eq_left (by omega)]
      simp only
      by_cases hb : h.base ≤ b
      · simp only [hb, if_true, Option.some.injEq] at hr ⊢
        subst hr; exact e
      · simp only [hb, if_false] at hr ⊢
        rw [e]
        have hl := canons_len hr
        have e2 : ((blk.cells.drop o).take n) = ((blk.cells.drop o).take n).take i ++ (((blk.cells.drop o).take n).drop i) := (List.take_append_drop _ _).symm
        rw [e2] at hr
        have h1 := (canons_split hr).2
        have e3 : (((blk.cells.drop o).take n).take i).length = i := by simp; omega
        rw [e3] at h1
        have e4 : (((blk.cells.drop o).take n).drop i) = (((blk.cells.drop o).take n).drop i).take m ++ (((blk.cells.drop o).take n).drop i).drop m := (List.take_append_drop _ _).symm
        rw [e4] at h1
        have h2 := (canons_split h1).1
        rw [h2]
        congr 2
        simp; omega
    · simp [hle] at hr

theorem read_length {h : Heap} {b o n : Nat} {cs : List Value} (hr : h.read b o n = some cs) : cs.length = n := by
  unfold Heap.read Heap.cells at hr
  cases hg : h.get b with
  | none => simp [hg] at hr
  | some blk =>
    simp only [hg] at hr
    by_cases hle : o + n ≤ blk.cells.length
    · simp only [hle, if_true] at hr
      by_cases hb : h.base ≤ b
      · simp only [hb, if_true, Option.some.injEq] at hr
        subst hr; simp; omega
      · simp only [hb, if_false] at hr
        rw [canons_len hr]; simp; omega
    · simp [hle] at hr

/-! ### What a slice reads as -/
/-- A slice of n elements of so many cells each, all of whose cells are these. -/
structure Reads (h : Heap) (v : Value) (n esz : Nat) (cs : List Value) : Prop where
  len : lenA v = some n
  small : n ≤ 4611686018427387904
  size : cs.length = n * esz
  at_ : n ≠ 0 → ∃ b o m cap, v = .slice (some ⟨b, o, m⟩) n cap ∧ h.read b o (n * esz) = some cs

theorem Reads.ext {h h' : Heap} (x : Ext h h') (k : Ok h) {v : Value} {n esz : Nat} {cs : List Value} (r : Reads h v n esz cs) : Reads h' v n esz cs :=
  ⟨r.len, r.small, r.size, fun hn => by obtain ⟨b, o, m, cap, e, hr⟩ := r.at_ hn; exact ⟨b, o, m, cap, e, x.read k hr⟩⟩

theorem Reads.nil (h : Heap) (esz : Nat) : Reads h (.slice none 0 0) 0 esz [] := ⟨rfl, by omega, by simp, fun h => absurd rfl h⟩

theorem Reads.elem {h : Heap} {v : Value} {n esz : Nat} {cs : List Value} (r : Reads h v n esz cs) {i : Nat} (hi : i < n) : ∃ b o m cap, v = .slice (some ⟨b, o, m⟩) n cap ∧ h.read b (o + i * esz) esz = some ((cs.drop (i * esz)).take esz) := by
  obtain ⟨b, o, m, cap, e, hr⟩ := r.at_ (by omega)
  refine ⟨b, o, m, cap, e, read_sub hr ?_⟩
  rw [← Nat.succ_mul]
  exact Nat.mul_le_mul_right _ hi

/-- A slice of ints. -/
def Ints (h : Heap) (v : Value) (xs : List Int) : Prop := Reads h v xs.length 1 (xs.map (.int .i64))
theorem Ints.ext {h h' : Heap} (x : Ext h h') (k : Ok h) {v : Value} {xs : List Int} (r : Ints h v xs) : Ints h' v xs := Reads.ext x k r
theorem Ints.nil (h : Heap) : Ints h (.slice none 0 0) [] := Reads.nil h 1

theorem Ints.elem {h : Heap} {v : Value} {xs : List Int} (r : Ints h v xs) {i : Nat} (hi : i < xs.length) : ∃ b o m cap, v = .slice (some ⟨b, o, m⟩) xs.length cap ∧ h.read b (o + i * 1) 1 = some [.int .i64 (xs.getD i 0)] := by
  obtain ⟨b, o, m, cap, e, hr⟩ := Reads.elem r hi
  refine ⟨b, o, m, cap, e, ?_⟩
  rw [hr]
  congr 1
  rw [Nat.mul_one]
  apply List.ext_getElem?
  intro j
  simp only [List.getElem?_take, List.getElem?_drop, List.getElem?_map]
  cases j with
  | zero => simp [hi, List.getD]
  | succ j => simp

theorem loadA_one {h : Heap} {b o : Nat} {v : Value} (hr : h.read b o 1 = some [v]) : loadA h 1 false (.pointer (some ⟨b, o, none⟩)) = some v := by
  simp [loadA, hr, whole]

/-- A slice whose parts may be taken. -/
def Fit : Value → Prop
  | .slice none l c => l = 0 ∧ c = 0
  | .slice (some ⟨_, _, none⟩) l c => l ≤ c
  | .slice (some ⟨_, o, some s⟩) l c => c = 0 ∧ (s = 0 ∧ o = 0 ∨ s = 1 ∨ s = 2 ∧ l = 0)
  | _ => False

/-- A slice of rows of ints. -/
structure Mat (h : Heap) (v : Value) (rows : List (List Int)) : Prop where
  mk :: (out : ∃ hd : List Value, Reads h v rows.length 1 hd ∧ hd.length = rows.length ∧ ∀ i, i < rows.length → Ints h (hd.getD i undef) (rows.getD i []) ∧ Fit (hd.getD i undef))

theorem Mat.ext {h h' : Heap} (x : Ext h h') (k : Ok h) {v : Value} {rows : List (List Int)} (r : Mat h v rows) : Mat h' v rows := by
  obtain ⟨hd, r1, r2, r3⟩ := r.out
  exact ⟨hd, r1.ext x k, r2, fun i hi => ⟨(r3 i hi).1.ext x k, (r3 i hi).2⟩⟩

theorem Mat.elem {h : Heap} {v : Value} {rows : List (List Int)} (r : Mat h v rows) {i : Nat} (hi : i < rows.length) : ∃ b o m cap u, v = .slice (some ⟨b, o, m⟩) rows.length cap ∧ h.read b (o + i * 1) 1 = some [u] ∧ Ints h u (rows.getD i []) ∧ Fit u := by
  obtain ⟨hd, r1, r2, r3⟩ := r.out
  obtain ⟨b, o, m, cap, e, hr⟩ := r1.elem hi
  refine ⟨b, o, m, cap, hd.getD i undef, e, ?_, r3 i hi⟩
  rw [hr]
  congr 1
  rw [Nat.mul_one]
  apply List.ext_getElem?
  intro j
  simp only [List.getElem?_take, List.getElem?_drop]
  cases j with
  | zero => simp [List.getD, r2, hi]
  | succ j => simp

/-! ### A slice that is appended to -/
/-- Such a slice: nil, or a grown row, or a row that was made whole; its block is younger than 'h0'. -/
structure Own (h0 h : Heap) (v : Value) (n esz : Nat) (cs : List Value) : Prop where
  small : n ≤ 4611686018427387904
  size : cs.length = n * esz
  ones : cs.all (·.oneCell') = true
  at_ : ((v = .slice none 0 0 ∨ ∃ b, v = .slice (some ⟨b, 0, none⟩) 0 0) ∧ n = 0) ∨ ∃ b e, (v = .slice (some ⟨b, 0, some 0⟩) n 0 ∧ e = esz ∨ v = .slice (some ⟨b, 0, none⟩) n n ∧ e = 0) ∧ h.get b = some { cells := cs, esz := e } ∧ h0.next ≤ b ∧ h.base ≤ b

theorem Own.nil (h0 h : Heap) (esz : Nat) : Own h0 h (.slice none 0 0) 0 esz [] := ⟨by omega, by simp, rfl, .inl ⟨.inl rfl, rfl⟩⟩
theorem Own.empty (h0 h : Heap) (esz b : Nat) : Own h0 h (.slice (some ⟨b, 0, none⟩) 0 0) 0 esz [] := ⟨by omega, by simp, rfl, .inl ⟨.inr ⟨b, rfl⟩, rfl⟩⟩
/-- A row that was just made. -/
theorem Own.new {h0 h : Heap} (x0 : Ext h0 h) (k : Ok h) {n esz : Nat} {cs : List Value} (hn : n ≤ 4611686018427387904) (hl : cs.length = n * esz) (h1 : cs.all (·.oneCell') = true) : Own h0 (h.alloc { cells := cs, esz := 0 }) (.slice (some ⟨h.next, 0, none⟩) n n) n esz cs :=
  ⟨hn, hl, h1, .inr ⟨h.next, 0, .inr ⟨rfl, rfl⟩, by simp [Heap.alloc], x0.next, k.le⟩⟩

theorem Own.reads {h0 h : Heap} {v : Value} {n esz : Nat} {cs : List Value} (r : Own h0 h v n esz cs) : Reads h v n esz cs := by
  refine ⟨?_, r.small, r.size, fun hn => ?_⟩
  · rcases r.at_ with ⟨rfl | ⟨b, rfl⟩, rfl⟩ | ⟨b, e, ⟨rfl, _⟩ | ⟨rfl, _⟩, _⟩ <;> rfl
  · rcases r.at_ with ⟨_, rfl⟩ | ⟨b, e, hv, hg, _, hb⟩
    · exact absurd rfl hn
    · have hr : h.read b 0 (n * esz) = some cs := by
        rw [read_own hb hg (by rw [r.size]; simp)]
        simp only [List.drop_zero]
        rw [← r.size, List.take_length]
      rcases hv with ⟨rfl, _⟩ | ⟨rfl, _⟩
      · exact ⟨b, 0, some 0, 0, rfl, hr⟩
      · exact ⟨b, 0, none, n, rfl, hr⟩

theorem Own.step {h0 h h' : Heap} (x : Ext h h') (k : Ok h) {v : Value} {n esz : Nat} {cs : List Value} (r : Own h0 h v n esz cs) : Own h0 h' v n esz cs := by
  refine ⟨r.small, r.size, r.ones, ?_⟩
  rcases r.at_ with ⟨hv, rfl⟩ | ⟨b, e, hv, hg, h1, h2⟩
  · exact .inl ⟨hv, rfl⟩
  · exact .inr ⟨b, e, hv, by rw [x.get b (k.lt hg)]; exact hg, h1, by rw [x.base]; exact h2⟩
/-- Its block is younger than anything elder, too. -/
theorem Own.elder {h0 h1 h : Heap} (x : h0.next ≤ h1.next) {v : Value} {n esz : Nat} {cs : List Value} (r : Own h1 h v n esz cs) : Own h0 h v n esz cs := by
  refine ⟨r.small, r.size, r.ones, ?_⟩
  rcases r.at_ with hv | ⟨b, e, hv, hg, h1, h2⟩
  · exact .inl hv
  · exact .inr ⟨b, e, hv, hg, by omega, h2⟩

/-- An append of a slice that reads as these cells. -/
theorem Own.append {h0 h : Heap} (x0 : Ext h0 h) (k : Ok h) {s x : Value} {n m esz bytes : Nat} {cs news : List Value} (r : Own h0 h s n esz cs) (rx : Reads h x m esz news) (h1 : news.all (·.oneCell') = true) (hsz : esz ≠ 0) (hb : (n + m) * bytes ≤ 70368744177664) (hn : n + m ≤ 4611686018427387904) :
    ∃ v' h', appendA h esz bytes s x = some (v', h') ∧ Own h0 h' v' (n + m) esz (cs ++ news) ∧ Ext h0 h' ∧ Ok h' := by
  unfold appendA
  rw [rx.len]
  simp only
  by_cases hm : m = 0
  · subst hm
    have hnews : news = [] := List.length_eq_zero_iff.1 (by rw [rx.size]; simp)
    subst hnews
    rw [if_pos rfl]
    rcases r.at_ with ⟨rfl | ⟨b, rfl⟩, rfl⟩ | ⟨b, e, ⟨rfl, _⟩ | ⟨rfl, _⟩, hg, _⟩
    · exact ⟨_, h, rfl, by simpa using r, x0, k⟩
    · exact ⟨_, h, rfl, by simpa using r, x0, k⟩
    · exact ⟨_, h, rfl, by simpa using r, x0, k⟩
    · exact ⟨_, h, if_pos (Nat.le_refl _), by simpa using r, x0, k⟩
  · rw [if_neg hm]
    obtain ⟨bx, ox, mx, cx, rfl, hr⟩ := rx.at_ hm
    have hsrc : srcA h esz (.slice (some ⟨bx, ox, mx⟩) m cx) m = some news := by
      unfold srcA; rw [if_neg hm]; exact hr
    rw [hsrc]
    simp only [h1, if_true]
    have hall : (cs ++ news).all (·.oneCell') = true := by rw [List.all_append, r.ones, h1]; rfl
    have hlen : (cs ++ news).length = (n + m) * esz := by rw [List.length_append, r.size, rx.size, Nat.add_mul]
    have made : Own h0 (h.alloc { cells := cs ++ news, esz := esz }) (.slice (some ⟨h.next, 0, some 0⟩) (n + m) 0) (n + m) esz (cs ++ news) :=
      ⟨by omega, hlen, hall, .inr ⟨h.next, esz, .inl ⟨rfl, rfl⟩, by simp [Heap.alloc], x0.next, k.le⟩⟩
    rcases r.at_ with ⟨rfl | ⟨b0, rfl⟩, rfl⟩ | ⟨b, e, ⟨rfl, rfl⟩ | ⟨rfl, rfl⟩, hg, hb0, hbb⟩
    · have hcs : cs = [] := List.length_eq_zero_iff.1 (by rw [r.size]; simp)
      subst hcs
      simp only [Nat.zero_add] at hb hn made
      simp only
      rw [if_pos ⟨hb, hn, hsz⟩]
      refine ⟨_, _, rfl, by simpa [growA] using made, x0.alloc' _, k.alloc _⟩
    · have hcs : cs = [] := List.length_eq_zero_iff.1 (by rw [r.size]; simp)
      subst hcs
      simp only [Nat.zero_add] at hb hn made
      simp only
      rw [if_neg (by omega)]
      simp only [if_true, List.nil_append, Nat.zero_add]
      rw [if_pos ⟨hb, hn, hsz⟩]
      refine ⟨_, _, rfl, by simpa [growA] using made, x0.alloc' _, k.alloc _⟩
    · simp only [hg]
      have ht : cs.take (n * e) = cs := by rw [← r.size]; exact List.take_length
      rw [if_pos ⟨hbb, trivial, hsz, by rw [r.size]; exact Nat.le_refl _, hb, hn, by rw [ht]; exact r.ones⟩, ht]
      refine ⟨_, _, rfl, ⟨by omega, hlen, hall, .inr ⟨h.next, e, .inl ⟨rfl, rfl⟩, by simp [Heap.alloc, Heap.kill], x0.next, k.le⟩⟩, (x0.kill hb0).alloc' _, (k.kill b).alloc _⟩
    · simp only
      rw [if_neg (by omega)]
      have hrd : (if n = 0 then some [] else h.read b 0 (n * esz)) = some cs := by
        by_cases h0n : n = 0
        · subst h0n
          have hcs : cs = [] := List.length_eq_zero_iff.1 (by rw [r.size]; simp)
          simp [hcs]
        · rw [if_neg h0n, read_own hbb hg (by rw [r.size]; simp)]
          simp only [List.drop_zero]
          rw [← r.size, List.take_length]
      rw [hrd]
      simp only
      rw [if_pos ⟨hb, hn, hsz⟩]
      exact ⟨_, _, rfl, made, x0.alloc' _, k.alloc _⟩

/-- An append of one element that was just laid down. -/
theorem Own.push {h0 h : Heap} (x0 : Ext h0 h) (k : Ok h) {s : Value} {n esz bytes : Nat} {cs news : List Value} (r : Own h0 h s n esz cs) (hl : news.length = esz) (h1 : news.all (·.oneCell') = true) (hsz : esz ≠ 0) (hb : (n + 1) * bytes ≤ 70368744177664) (hn : n + 1 ≤ 4611686018427387904) :
    ∃ v' h', appendA (h.alloc { cells := news, esz := 0 }) esz bytes s (rowOf 1 1 h.next) = some (v', h') ∧ Own h0 h' v' (n + 1) esz (cs ++ news) ∧ Ext h0 h' ∧ Ok h' := by
  have xa := Ext.alloc h { cells := news, esz := 0 }
  refine Own.append (x0.trans xa) (k.alloc _) (r.step xa k) ⟨rfl, by omega, by simp [hl], fun _ => ⟨h.next, 0, none, 1, rfl, ?_⟩⟩ h1 hsz hb hn
  have := read_own (h := h.alloc { cells := news, esz := 0 }) (b := h.next) (blk := { cells := news, esz := 0 }) (o := 0) (n := 1 * esz) (show (h.alloc { cells := news, esz := 0 }).base ≤ h.next from k.le) (by simp [Heap.alloc]) (by simp [hl])
  rw [this]
  simp only [List.drop_zero]
  rw [show 1 * esz = news.length by omega, List.take_length]

theorem Call.grows {T : FuncId → Option AFn} {f args h} {R : Value → Heap → Prop} (hw : Call T f args h R) : Call T f args h (fun v h' => R v h' ∧ Grows h h') := by
  obtain ⟨v, h', r, g, s⟩ := Call.det f args h R hw
  exact s.imp (fun v1 h1 ⟨e1, e2⟩ => by subst e1; subst e2; exact ⟨r, g⟩)

theorem wrap_in {x : Int} (h1 : -9223372036854775808 ≤ x) (h2 : x ≤ 9223372036854775807) : IntKind.wrap .i64 x = x := by
  rw [IntKind.wrap_i64]; omega

end Go.AM
