/- The abstract machine, part 14: loads and stores, one block at a time. -/
import Derived.Test.YtkhhdemhlbaboaaAM13
set_option linter.unusedVariables false
set_option linter.unusedSimpArgs false
namespace Go.AM

theorem load1 {h : Heap} {b o : Nat} (hb : h.base ≤ b) : loadA h 1 false (.pointer (some ⟨b, o, none⟩)) = (match h.get b with
    | some blk => blk.cells[o]?
    | none => none) := by
  simp only [loadA, Heap.read, Heap.cells]
  cases h.get b with
  | none => rfl
  | some blk =>
    simp only
    by_cases ho : o < blk.cells.length
    · rw [if_pos (by omega)]
      simp only [hb, if_true]
      rw [List.drop_eq_getElem_cons ho, List.getElem?_eq_getElem ho]
      rfl
    · rw [if_neg (by omega), List.getElem?_eq_none (by omega)]

theorem loadN {h : Heap} {n b o : Nat} (hb : h.base ≤ b) : loadA h n true (.pointer (some ⟨b, o, none⟩)) = (match h.get b with
    | some blk => if o + n ≤ blk.cells.length then some (.agg ((blk.cells.drop o).take n).toArray) else none
    | none => none) := by
  simp only [loadA, Heap.read, Heap.cells]
  cases h.get b with
  | none => rfl
  | some blk =>
    simp only
    by_cases ho : o + n ≤ blk.cells.length
    · rw [if_pos ho, if_pos ho]
      simp only [hb, if_true]
      rfl
    · rw [if_neg ho, if_neg ho]

def storeA (h : Heap) (n : Nat) (x v : Value) : Option (Value × Heap) :=
  match x with
  | .pointer (some ⟨b, o, none⟩) => if v.cells.toList.length = n then (match h.write b o v.cells.toList with
      | some h' => some (undef, h')
      | none => none) else none
  | _ => none
theorem eop_store {n : Nat} {x v : Operand} {ρ : Nat → Value} {h : Heap} : eop (.store n x v) ρ h = storeA h n (ev ρ x) (ev ρ v) := _root_.id rfl
theorem eop_append {n m : Nat} {x v : Operand} {ρ : Nat → Value} {h : Heap} : eop (.append n m x v) ρ h = appendA h n m (ev ρ x) (ev ρ v) := _root_.id rfl
def copyA (h : Heap) (esz : Nat) (d s : Value) : Option (Value × Heap) :=
  match lenA d, lenA s with
    | some ld, some ls =>
      if Nat.min ls ld = 0 then some (.int .i64 0, h) else
      match srcA h esz s (Nat.min ls ld), d with
      | some cs, .slice (some ⟨b, o, _⟩) _ _ => (match h.write b o cs with
        | some h' => some (.int .i64 (Nat.min ls ld : Nat), h')
        | none => none)
      | _, _ => none
    | _, _ => none
theorem eop_copy {n : Nat} {x v : Operand} {ρ : Nat → Value} {h : Heap} : eop (.copy n x v) ρ h = copyA h n (ev ρ x) (ev ρ v) := _root_.id rfl
def clearA (h : Heap) (zero : List Value) (x : Value) : Option (Value × Heap) :=
  match lenA x with
    | some n => if n = 0 then some (.tuple #[], h) else
      match x with
      | .slice (some ⟨b, o, _⟩) _ _ => (match h.write b o (made zero (n * zero.length)) with
        | some h' => some (.tuple #[], h')
        | none => none)
      | _ => none
    | none => none
theorem eop_clear {z : List Value} {x : Operand} {ρ : Nat → Value} {h : Heap} : eop (.clear z x) ρ h = clearA h z (ev ρ x) := _root_.id rfl

theorem alop_var {z : List Value} {ρ : Nat → Value} : alop (.var z) ρ = some (z, ptrTo) := _root_.id rfl
theorem alop_box {x : Operand} {ρ : Nat → Value} : alop (.box x) ρ = some ((ev ρ x).cells.toList, ptrTo) := _root_.id rfl
theorem alop_bslice {z : List Value} {n : Nat} {ps : List (Nat × Nat × Operand)} {ρ : Nat → Value} : alop (.bslice z n ps) ρ = (match fillA z (ps.map fun p => (p.1, p.2.1, ev ρ p.2.2)) with
    | some cs => some (cs, rowOf n n)
    | none => none) := _root_.id rfl
theorem alop_mslice {z : List Value} {n : Nat} {l c : Operand} {ρ : Nat → Value} : alop (.mslice n z l c) ρ = (match ev ρ l, ev ρ c with
    | .int _ l, .int _ c => if 0 ≤ l ∧ l ≤ c ∧ (n : Int) * c ≤ 281474976710656 ∧ c ≤ 9223372036854775807 then
        some (made z (c.toNat * z.length), rowOf l.toNat c.toNat) else none
    | _, _ => none) := _root_.id rfl
theorem pop_build {z : List Value} {ps : List (Nat × Nat × Operand)} {ρ : Nat → Value} : pop (.build z ps) ρ = (match fillA z (ps.map fun p => (p.1, p.2.1, ev ρ p.2.2)) with
    | some cs => some (.agg cs.toArray)
    | none => none) := _root_.id rfl
theorem fillA_nil {z : List Value} : fillA z [] = some z := _root_.id rfl
theorem fillA_cons {z : List Value} {o s : Nat} {v : Value} {r : List (Nat × Nat × Value)} : fillA z ((o, s, v) :: r) = if v.cells.toList.length = s ∧ o + s ≤ z.length then fillA (z.take o ++ v.cells.toList ++ z.drop (o + s)) r else none := _root_.id rfl
theorem made_zero {z : List Value} : made z 0 = [] := _root_.id rfl
theorem made_one {a : Value} : made [a] 1 = [a] := _root_.id rfl
theorem made_two {a : Value} : made [a] 2 = [a, a] := by simp [made, List.range_succ]
theorem made_three {a b c : Value} : made [a, b, c] 3 = [a, b, c] := by simp [made, List.range_succ]
theorem made_pair {a b : Value} : made [a, b] 2 = [a, b] := by simp [made, List.range_succ]
theorem ptrTo_eq {b : Nat} : ptrTo b = .pointer (some ⟨b, 0, none⟩) := _root_.id rfl
theorem rowOf_eq {n c b : Nat} : rowOf n c b = .slice (some ⟨b, 0, none⟩) n c := _root_.id rfl

theorem cells_int {k : IntKind} {n : Int} : (Value.int k n).cells.toList = [.int k n] := _root_.id rfl
theorem cells_bool {b : Bool} : (Value.bool b).cells.toList = [.bool b] := _root_.id rfl
theorem cells_ptr {a : Option Addr} : (Value.pointer a).cells.toList = [.pointer a] := _root_.id rfl
theorem cells_slice {a : Option Addr} {n c : Nat} : (Value.slice a n c).cells.toList = [.slice a n c] := _root_.id rfl
theorem cells_iface {t : TypeId} {v : Value} : (Value.iface t v).cells.toList = [.iface t v] := _root_.id rfl
theorem cells_niliface : (Value.nilIface).cells.toList = [.nilIface] := _root_.id rfl
theorem cells_agg {l : List Value} : (Value.agg l.toArray).cells.toList = l := _root_.id rfl
theorem cells_agg' {l : Array Value} : (Value.agg l).cells.toList = l.toList := _root_.id rfl
theorem cells_tuple {l : Array Value} : (Value.tuple l).cells.toList = [.tuple l] := _root_.id rfl

theorem one_int {k : IntKind} {n : Int} : (Value.int k n).oneCell' = true := _root_.id rfl
theorem one_bool {b : Bool} : (Value.bool b).oneCell' = true := _root_.id rfl
theorem one_ptr {a : Option Addr} : (Value.pointer a).oneCell' = true := _root_.id rfl
theorem one_slice {a : Option Addr} {n c : Nat} : (Value.slice a n c).oneCell' = true := _root_.id rfl
theorem one_iface {t : TypeId} {v : Value} : (Value.iface t v).oneCell' = true := _root_.id rfl
theorem one_niliface : (Value.nilIface).oneCell' = true := _root_.id rfl

/-- Cells, each one cell. -/
def Ones (l : List Value) : Prop := l.all (·.oneCell') = true
theorem ones_nil : Ones [] = True := eq_true rfl
theorem ones_cons {v : Value} {l : List Value} : Ones (v :: l) = (v.oneCell' = true ∧ Ones l) := by simp [Ones]

/-- A store of one cell. -/
theorem store1 {h : Heap} {b o : Nat} {v : Value} (hb : h.base ≤ b) (hv : v.cells.toList = [v]) (h1 : v.oneCell' = true) : storeA h 1 (.pointer (some ⟨b, o, none⟩)) v = (match h.get b with
    | some blk => if o < blk.cells.length then some (undef, h.put b { blk with cells := blk.cells.set o v }) else none
    | none => none) := by
  unfold storeA
  simp only [hv, List.length_singleton, if_true]
  unfold Heap.write
  cases h.get b with
  | none => rfl
  | some blk =>
    simp only [List.length_singleton, List.all_cons, List.all_nil, h1, Bool.and_true, and_true]
    by_cases ho : o < blk.cells.length
    · rw [if_pos ⟨hb, by omega⟩, if_pos ho]
      have e : blk.cells.set o v = blk.cells.take o ++ [v] ++ blk.cells.drop (o + 1) := by
        rw [List.set_eq_take_append_cons_drop, if_pos ho]; simp
      rw [e]
    · rw [if_neg (by omega), if_neg ho]

/-- A store of a whole struct. -/
theorem storeN {h : Heap} {n b o : Nat} {vs : List Value} (hb : h.base ≤ b) (h1 : Ones vs) : storeA h n (.pointer (some ⟨b, o, none⟩)) (.agg vs.toArray) = (match h.get b with
    | some blk => if vs.length = n ∧ o + n ≤ blk.cells.length then some (undef, h.put b { blk with cells := blk.cells.take o ++ vs ++ blk.cells.drop (o + n) }) else none
    | none => none) := by
  unfold storeA
  simp only [cells_agg]
  unfold Heap.write
  cases h.get b with
  | none => simp
  | some blk =>
    simp only [show vs.all (·.oneCell') = true from h1, and_true]
    by_cases hn : vs.length = n
    · subst hn
      by_cases ho : o + vs.length ≤ blk.cells.length
      · simp [hb, ho]
      · simp [ho]
    · simp [hn]

theorem Ints.at {h : Heap} {v : Value} {xs : List Int} (r : Ints h v xs) {i : Nat} (hi : i < xs.length) : ∃ p, iaddrA 1 v (.int .i64 i) = some p ∧ loadA h 1 false p = some (.int .i64 (xs.getD i 0)) := by
  obtain ⟨b, o, m, cap, rfl, hr⟩ := r.elem hi
  refine ⟨.pointer (some ⟨b, o + i * 1, none⟩), ?_, loadA_one hr⟩
  simp [iaddrA, hi]
theorem wrap_succ {i n : Nat} (h : i < n) (hn : n ≤ 4611686018427387904) : IntKind.wrap .i64 ((i : Int) + 1) = ((i + 1 : Nat) : Int) := by
  rw [wrap_in] <;> omega

def aaddrA (l esz : Nat) (v i : Value) : Option Value :=
  match v, i with
    | .pointer (some ⟨b, o, none⟩), .int _ n => if 0 ≤ n ∧ n < (l : Int) then some (.pointer (some ⟨b, o + n.toNat * esz, none⟩)) else none
    | _, _ => none
theorem pop_aaddr {l esz : Nat} {x i : Operand} {ρ : Nat → Value} : pop (.aaddr l esz x i) ρ = aaddrA l esz (ev ρ x) (ev ρ i) := _root_.id rfl
theorem aaddrA_ptr {l esz b o : Nat} {k : IntKind} {n : Int} : aaddrA l esz (.pointer (some ⟨b, o, none⟩)) (.int k n) = if 0 ≤ n ∧ n.toNat < l then some (.pointer (some ⟨b, o + n.toNat * esz, none⟩)) else none := by
  have key : (0 ≤ n ∧ n < (l : Int)) = (0 ≤ n ∧ n.toNat < l) := by apply propext; omega
  simp only [aaddrA, key]

theorem Reads.zero {h : Heap} {v : Value} {esz : Nat} (hv : lenA v = some 0) : Reads h v 0 esz [] := ⟨hv, by omega, by simp, fun h => absurd rfl h⟩

theorem bnd_none {ρ : Nat → Value} {d : Nat} : bndA ρ d none = some d := _root_.id rfl
theorem bnd_tmp {ρ : Nat → Value} {d t k : Nat} (h : ρ t = .int .i64 k) : bndA ρ d (some (.tmp t)) = some k := by simp [bndA, ev, h]

theorem bnd_tmp' {ρ : Nat → Value} {d t : Nat} : bndA ρ d (some (.tmp t)) = (match ρ t with
    | .int _ n => if 0 ≤ n then some n.toNat else none
    | _ => none) := _root_.id rfl
theorem bnd_const {ρ : Nat → Value} {d : Nat} {k : IntKind} {n : Int} : bndA ρ d (some (.const (.int k n))) = if 0 ≤ n then some n.toNat else none := _root_.id rfl
theorem Own.fit {h0 h : Heap} {v : Value} {n esz : Nat} {cs : List Value} (r : Own h0 h v n esz cs) : Fit v := by
  rcases r.at_ with ⟨rfl | ⟨b, rfl⟩, rfl⟩ | ⟨b, e, ⟨rfl, _⟩ | ⟨rfl, _⟩, hg, h1, h2⟩
  · exact ⟨rfl, rfl⟩
  · exact Nat.le_refl _
  · exact ⟨rfl, .inl ⟨rfl, rfl⟩⟩
  · exact Nat.le_refl _

/-- The block of a slice. -/
def InBlk (v : Value) (i : Nat) : Prop := ∃ o m n c, v = .slice (some ⟨i, o, m⟩) n c ∧ n ≠ 0

/-- A part of a slice. -/
theorem Reads.cut {h : Heap} {v : Value} {n esz : Nat} {cs : List Value} (r : Reads h v n esz cs) (f : Fit v) {a b : Nat} (hab : a ≤ b) (hbn : b ≤ n) :
    ∃ v', (∀ lo hi ρ, bndA ρ 0 lo = some a → bndA ρ n hi = some b → sliceA esz v lo hi none ρ = some v') ∧ Reads h v' (b - a) esz ((cs.drop (a * esz)).take ((b - a) * esz)) ∧ Fit v' ∧ ∀ i, InBlk v' i → InBlk v i := by
  have hsm := r.small
  have hsz := r.size
  have hmul : a * esz + (b - a) * esz ≤ n * esz := by rw [← Nat.add_mul]; exact Nat.mul_le_mul_right _ (by omega)
  have hlen : ((cs.drop (a * esz)).take ((b - a) * esz)).length = (b - a) * esz := by
    rw [List.length_take, List.length_drop]; omega
  have empty : ∀ v', lenA v' = some 0 → b = a → Reads h v' (b - a) esz ((cs.drop (a * esz)).take ((b - a) * esz)) := by
    intro v' hv he
    subst he
    rw [Nat.sub_self]
    exact ⟨hv, by omega, by simp, fun h => absurd rfl h⟩
  have hl := r.len
  unfold Fit at f
  split at f
  · rename_i l c
    obtain ⟨rfl, rfl⟩ := f
    simp only [lenA, Option.some.injEq] at hl
    subst hl
    have e1 : b = 0 := by omega
    have e2 : a = 0 := by omega
    subst e1; subst e2
    refine ⟨.slice none 0 0, fun lo hi ρ ha hb => by simp only [sliceA, ha, hb, bnd_none]; simp, empty _ rfl rfl, ⟨rfl, rfl⟩, fun i hi => hi⟩
  · rename_i bb o l c
    simp only [lenA, Option.some.injEq] at hl
    subst hl
    refine ⟨.slice (some ⟨bb, if c = a then o else o + a * esz, none⟩) (b - a) (c - a), ?_, ?_, ?_, ?_⟩
    · intro lo hi ρ ha hb
      simp only [sliceA, ha, hb, bnd_none]
      rw [if_pos ⟨hab, by omega, Nat.le_refl _, by simp⟩]
    · by_cases he : b = a
      · exact empty _ (by rw [he, Nat.sub_self]; rfl) he
      · refine ⟨rfl, by omega, hlen, fun _ => ⟨_, _, _, _, rfl, ?_⟩⟩
        rw [if_neg (by omega)]
        obtain ⟨b', o', m', c', e, hr⟩ := r.at_ (by omega)
        simp only [Value.slice.injEq, Option.some.injEq, Addr.mk.injEq] at e
        obtain ⟨⟨rfl, rfl, rfl⟩, _, rfl⟩ := e
        exact read_sub hr hmul
    · show b - a ≤ c - a; omega
    · intro i ⟨o2, m2, n2, c2, e, hn⟩
      simp only [Value.slice.injEq, Option.some.injEq, Addr.mk.injEq] at e
      obtain ⟨⟨rfl, _, _⟩, rfl, _⟩ := e
      exact ⟨_, _, _, _, rfl, by omega⟩
  · rename_i bb o s l c
    simp only [lenA, Option.some.injEq] at hl
    subst hl
    obtain ⟨rfl, f⟩ := f
    have base : ∀ lo hi ρ, bndA ρ 0 lo = some a → bndA ρ l hi = some b → sliceA esz (.slice (some ⟨bb, o, some s⟩) l 0) lo hi none ρ = (if s = 0 ∧ o = 0 ∧ a = 0 then some (.slice (some ⟨bb, 0, some 0⟩) b 0)
        else if a = b then some (.slice (some ⟨0, 0, some 2⟩) 0 0)
        else if s = 0 ∧ o = 0 ∨ s = 1 then some (.slice (some ⟨bb, o + a * esz, some 1⟩) (b - a) 0) else none) := by
      intro lo hi ρ ha hb
      simp only [sliceA, ha, hb]
      rw [if_pos ⟨hab, hbn⟩]
    by_cases c1 : s = 0 ∧ o = 0 ∧ a = 0
    · rw [if_pos c1] at base
      obtain ⟨rfl, rfl, rfl⟩ := c1
      refine ⟨_, base, ?_, ⟨rfl, .inl ⟨rfl, rfl⟩⟩, ?_⟩
      · by_cases he : b = 0
        · exact empty _ (by rw [he]; rfl) he
        · refine ⟨rfl, by omega, hlen, fun _ => ⟨_, _, _, _, rfl, ?_⟩⟩
          obtain ⟨b', o', m', c', e, hr⟩ := r.at_ (by omega)
          simp only [Value.slice.injEq, Option.some.injEq, Addr.mk.injEq] at e
          obtain ⟨⟨rfl, rfl, rfl⟩, _, rfl⟩ := e
          have := read_sub hr hmul
          simpa using this
      · intro i ⟨o2, m2, n2, c2, e, hn⟩
        simp only [Value.slice.injEq, Option.some.injEq, Addr.mk.injEq] at e
        obtain ⟨⟨rfl, _, _⟩, rfl, _⟩ := e
        exact ⟨_, _, _, _, rfl, by omega⟩
    · rw [if_neg c1] at base
      by_cases c2 : a = b
      · rw [if_pos c2] at base
        refine ⟨_, base, empty _ rfl c2.symm, ⟨rfl, .inr (.inr ⟨rfl, rfl⟩)⟩, ?_⟩
        intro i ⟨o2, m2, n2, c2, e, hn⟩
        simp only [Value.slice.injEq] at e
        omega
      · rw [if_neg c2] at base
        have c3 : s = 0 ∧ o = 0 ∨ s = 1 := by omega
        rw [if_pos c3] at base
        refine ⟨_, base, ⟨rfl, by omega, hlen, fun _ => ⟨_, _, _, _, rfl, ?_⟩⟩, ⟨rfl, .inr (.inl rfl)⟩, ?_⟩
        · obtain ⟨b', o', m', c', e, hr⟩ := r.at_ (by omega)
          simp only [Value.slice.injEq, Option.some.injEq, Addr.mk.injEq] at e
          obtain ⟨⟨rfl, rfl, rfl⟩, _, rfl⟩ := e
          exact read_sub hr hmul
        · intro i ⟨o2, m2, n2, c2, e, hn⟩
          simp only [Value.slice.injEq, Option.some.injEq, Addr.mk.injEq] at e
          obtain ⟨⟨rfl, _, _⟩, rfl, _⟩ := e
          exact ⟨_, _, _, _, rfl, by omega⟩
  · exact f.elim

theorem Ok.put' {h : Heap} (k : Ok h) {b : Nat} {o o' : Blk} (hb : h.get b = some o) : Ok (h.put b o') := k.put (k.lt hb) o'

end Go.AM
