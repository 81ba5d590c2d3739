/- The abstract machine, part 2: loads, new memory, stores. -/
import Derived.Test.YtkhhdemhlbaboaaAM1
set_option linter.unusedVariables false
set_option linter.unusedSimpArgs false
namespace Go.AM

/-! ### Loads -/
def isAggT : TypeDesc → Bool
  | .struct _ | .array _ _ => true
  | _ => false

/-- A load: how many cells, whether they are one value, from where. -/
def cL (P : Program) : Op → Option (Nat × Bool × Operand)
  | .load t a => match P.underlying t, szOf P t with
    | some d, some n => if isAggT d then some (n, true, a) else some (1, false, a)
    | _, _ => none
  | _ => none

def whole (agg : Bool) (cs : List Value) : Option Value :=
  if agg then some (.agg cs.toArray) else match cs with
    | [v] => some v
    | _ => none

def loadA (h : Heap) (n : Nat) (agg : Bool) (x : Value) : Option Value :=
  match x with
  | .pointer (some ⟨b, o, none⟩) => match h.read b o n with
    | some cs => whole agg cs
    | none => none
  | _ => none

theorem load_sound {P : Program} {o : Oper} {n : Nat} {agg : Bool} {x : Operand} (hc : cL P o.op = some (n, agg, x)) {G : Gh} {ρ : Nat → Value} {a : Act} (E : ∀ x, x ∈ o.op.operands → VRel G (ev ρ x) (a.eval x))
    {h : Heap} {w : World} (H : HRel G h w) {v : Value} (hv : loadA h n agg (ev ρ x) = some v) :
    ∃ v', VRel G v v' ∧ (execOp a.eval o).run P w = .ok (.value v') w := by
  obtain ⟨dst, op, type, pos, after, guard⟩ := o
  simp only at hc E
  unfold execOp
  cases op <;> simp only [cL, reduceCtorEq] at hc
  rename_i t y
  have e1 : VRel G (ev ρ y) (a.eval y) := E y (by simp [Op.operands])
  split at hc
  · rename_i d m hd hm
    have hxy : x = y := by split at hc <;> simp only [Option.some.injEq, Prod.mk.injEq] at hc <;> exact hc.2.2.symm
    subst hxy
    generalize ev ρ x = u at *
    generalize hu : a.eval x = u' at e1
    cases e1 <;> simp only [loadA, reduceCtorEq] at hv
    rename_i b c k o hG
    split at hv
    · rename_i cs hcs
      obtain ⟨c', k', cs', h1, h2, h3, h4⟩ := H.cells hcs
      rw [hG] at h1; simp only [Option.some.injEq, Prod.mk.injEq] at h1; obtain ⟨rfl, rfl⟩ := h1
      have hld := run_loadCells_list (P := P) (w := w) ⟨c, o, none⟩ cs' (fun j v hj => by rw [Addr.add_eq]; exact h4 j v hj)
      have hlen := h2.length
      by_cases hg : isAggT d = true
      · rw [if_pos hg] at hc
        simp only [Option.some.injEq, Prod.mk.injEq] at hc; obtain ⟨rfl, rfl, _⟩ := hc
        simp only [whole, if_true, Option.some.injEq] at hv; subst hv
        refine ⟨_, .agg h2, ?_⟩
        have hagg : (isAgg t).run P w = .ok true w := by
          cases d <;> simp [isAggT] at hg <;> simp [isAgg, run_underlying hd]
        rw [show cs'.length = m from by omega] at hld
        simp [Instr.loadAt, Instr.sureAddr, hu, loadVar, hagg, szOf_run hm, hld]
      · rw [if_neg hg] at hc
        simp only [Option.some.injEq, Prod.mk.injEq] at hc; obtain ⟨rfl, rfl, _⟩ := hc
        simp only [whole, Bool.false_eq_true, if_false] at hv
        split at hv
        · rename_i v1
          simp only [Option.some.injEq] at hv; subst hv
          cases h2 with
          | cons hv1 hr =>
            rename_i v' l'
            refine ⟨v', hv1, ?_⟩
            have hagg : (isAgg t).run P w = .ok false w := by
              cases d <;> simp [isAggT] at hg <;> simp [isAgg, run_underlying hd]
            have hcell := h4 0 v' rfl
            simp [Instr.loadAt, Instr.sureAddr, hu, loadVar, hagg]
            rw [show (⟨c, o, none⟩ : Addr) = ⟨c, o + 0, none⟩ from rfl, hcell]
            rfl
        · cases hv
    · cases hv
  · cases hc

/-! ### New memory -/
def made (zero : List Value) (n : Nat) : List Value := (List.range n).map fun i => zero.getD (i % zero.length) undef

inductive AlOp where
  | var (zero : List Value)
  | box (x : Operand)
  | bslice (init : List Value) (len : Nat) (parts : List (Nat × Nat × Operand))
  | mslice (bytes : Nat) (zero : List Value) (l c : Operand)

def ptrTo (id : Nat) : Value := .pointer (some ⟨id, 0, none⟩)
def rowOf (l c : Nat) (id : Nat) : Value := .slice (some ⟨id, 0, none⟩) l c

def alop : AlOp → (Nat → Value) → Option (List Value × (Nat → Value))
  | .var zero, _ => some (zero, ptrTo)
  | .box x, ρ => some ((ev ρ x).cells.toList, ptrTo)
  | .bslice init len parts, ρ => match fillA init (parts.map fun p => (p.1, p.2.1, ev ρ p.2.2)) with
    | some cs => some (cs, rowOf len len)
    | none => none
  | .mslice bytes zero l c, ρ => match ev ρ l, ev ρ c with
    | .int _ l, .int _ c => if 0 ≤ l ∧ l ≤ c ∧ (bytes : Int) * c ≤ 281474976710656 ∧ c ≤ 9223372036854775807 then
        some (made zero (c.toNat * zero.length), rowOf l.toNat c.toNat) else none
    | _, _ => none

def rowParts (s : Nat) : List (Nat × Operand) → List (Nat × Nat × Operand)
  | [] => []
  | (i, x) :: r => (i * s, s, x) :: rowParts s r

def cA (P : Program) : Op → Option AlOp
  | .alloc t => match zeroOf P t with
    | some z => if z.all (cellOk 0) = true then some (.var z) else none
    | none => none
  | .box _ x => some (.box x)
  | .buildSlice t len parts => match P.underlying t with
    | some (.slice e) => match szOf P e, zeroOf P e with
      | some s, some z => if z.length = s ∧ z.all (cellOk 0) = true ∧ len * s ≤ 16777216 then some (.bslice (made z (len * s)) len (rowParts s parts.toList)) else none
      | _, _ => none
    | _ => none
  | .makeSlice t l c => match P.underlying t with
    | some (.slice e) => match P.info? e, zeroOf P e with
      | some i, some z => if z.length = i.size ∧ z.all (cellOk 0) = true then some (.mslice i.bytes z l c) else none
      | _, _ => none
    | _ => none
  | _ => none

theorem rowParts_rel {s : Nat} {ρ : Nat → Value} {a : Act} {G : Gh} : ∀ (l : List (Nat × Operand)), (∀ x ∈ l, VRel G (ev ρ x.2) (a.eval x.2)) →
    ((rowParts s l).map fun p => (p.1, p.2.1, ev ρ p.2.2)).length = (l.map fun p => (p.1, a.eval p.2)).length ∧
    ∀ (i : Nat) (x : Nat × Nat × Value), ((rowParts s l).map fun p => (p.1, p.2.1, ev ρ p.2.2))[i]? = some x → ∃ y : Nat × Value, (l.map fun p => (p.1, a.eval p.2))[i]? = some y ∧ (some (y.1 * s, s) : Option (Nat × Nat)) = some (x.1, x.2.1) ∧ VRel G x.2.2 y.2
  | [], _ => by simp [rowParts]
  | (j, o) :: l, hE => by
    obtain ⟨h1, h2⟩ := rowParts_rel l (fun x hx => hE x (by simp [hx]))
    refine ⟨by simpa [rowParts] using h1, fun i x hx => ?_⟩
    cases i with
    | zero => simp [rowParts] at hx; subst hx; exact ⟨(j, a.eval o), by simp, by simp, hE (j, o) (by simp)⟩
    | succ i => simpa using h2 i x (by simpa [rowParts] using hx)

theorem made_rels {G : Gh} {z : List Value} (hz : z.all (cellOk 0) = true) (n : Nat) : VRels G (made z n) (made z n) := by
  apply VRels.of_get rfl
  intro i v hv
  refine ⟨v, hv, ?_⟩
  simp only [made, List.getElem?_map, Option.map_eq_some_iff] at hv
  obtain ⟨j, _, rfl⟩ := hv
  rw [List.getD_eq_getElem?_getD]
  cases hg : z[j % z.length]? with
  | none => exact .tuple (c := []) (c' := []) .nil
  | some u => exact VRel.of_cellOk (low0 G) ((List.all_eq_true.1 hz) u (List.mem_of_getElem? hg))

theorem made_cells {z : List Value} {zv : Value} (hz : zv.cells.toList = z) (n : Nat) (hn : n = 0 ∨ z ≠ []) : (madeCells zv.cells n).toList = made z n := by
  subst hz
  simp only [madeCells, made, Array.toList_map, Array.toList_range, Array.length_toList]
  apply List.map_congr_left
  intro i hi
  have : 0 < zv.cells.size := by
    rcases hn with h | h
    · subst h; simp at hi
    · have : zv.cells.toList.length ≠ 0 := fun e => h (List.length_eq_zero_iff.1 e)
      rw [Array.length_toList] at this; omega
  have hlt := Nat.mod_lt i this
  simp [List.getD, hlt]

theorem al_sound {P : Program} {o : Oper} {p : AlOp} (hc : cA P o.op = some p) {G : Gh} {ρ : Nat → Value} {a : Act} (E : ∀ x, x ∈ o.op.operands → VRel G (ev ρ x) (a.eval x))
    {cs : List Value} {f : Nat → Value} (hv : alop p ρ = some (cs, f)) :
    ∃ (C : Array Value) (T : TypeId) (f' : Nat → Value), VRels G cs C.toList ∧ (∀ (G' : Gh) (id c k : Nat), G' id = some (c, k) → VRel G' (f id) (f' c)) ∧
      ∀ w, (execOp a.eval o).run P w = .ok (.value (f' w.heap.size)) (w.alloc (.cells C T)) := by
  have hptr : ∀ (G' : Gh) (id c k : Nat), G' id = some (c, k) → VRel G' (ptrTo id) (ptrTo c) := fun G' id c k h => .ptr 0 h
  have hrow : ∀ (l m : Nat) (G' : Gh) (id c k : Nat), G' id = some (c, k) → VRel G' (rowOf l m id) (rowOf l m c) := fun l m G' id c k h => .slice 0 l m h
  obtain ⟨dst, op, type, pos, after, guard⟩ := o
  simp only at hc E
  unfold execOp
  cases op <;> simp only [cA, reduceCtorEq] at hc
  case alloc t =>
    split at hc
    · rename_i z hz
      split at hc
      · rename_i hzok
        simp only [Option.some.injEq] at hc; subst hc
        simp only [alop, Option.some.injEq, Prod.mk.injEq] at hv; obtain ⟨rfl, rfl⟩ := hv
        obtain ⟨i, zv, hi, hiz, hzv, hzr⟩ := zeroOf_run hz
        refine ⟨zv.cells, t, ptrTo, ?_, hptr, fun w => by simp [Instr.alloc, hzr, newVar, newRow, ptrTo]⟩
        rw [hzv]; exact cellOk.rels (low0 G) hzok
      · cases hc
    · cases hc
  case box t x =>
    simp only [Option.some.injEq] at hc; subst hc
    simp only [alop, Option.some.injEq, Prod.mk.injEq] at hv; obtain ⟨rfl, rfl⟩ := hv
    exact ⟨(a.eval x).cells, t, ptrTo, (E x (by simp [Op.operands])).cells, hptr, fun w => by simp [Instr.box, newVar, newRow, ptrTo]⟩
  case buildSlice t len parts =>
    split at hc
    · rename_i e ht
      split at hc
      · rename_i s z hs hz
        split at hc
        · rename_i hcond
          obtain ⟨hzl, hzok, hlen⟩ := hcond
          simp only [Option.some.injEq] at hc; subst hc
          simp only [alop] at hv
          split at hv
          · rename_i cs' hcs
            simp only [Option.some.injEq, Prod.mk.injEq] at hv; obtain ⟨rfl, rfl⟩ := hv
            obtain ⟨i, zv, hi, hiz, hzv, hzr⟩ := zeroOf_run hz
            obtain ⟨q1, q2⟩ := rowParts_rel (s := s) parts.toList (fun x hx => E x.2 (by simp [Op.operands]; exact ⟨x.1, by simpa using hx⟩))
            have hmade : len * s = 0 ∨ z ≠ [] := by
              by_cases h0 : s = 0
              · left; rw [h0, Nat.mul_zero]
              · right; intro h; rw [h] at hzl; simp at hzl; omega
            obtain ⟨C', e1, e2⟩ := fill_rel (G := G) (fun i => some (i * s, s)) _ _ (made z (len * s)) (madeCells zv.cells (len * s)) cs' (by rw [made_cells hzv _ hmade]; exact made_rels hzok _) q1 q2 hcs
            refine ⟨C', e, rowOf len len, e2, hrow _ _, fun w => ?_⟩
            have e3 : (parts.map fun p => (p.1, a.eval p.2)).toList = parts.toList.map fun p => (p.1, a.eval p.2) := by simp
            have n1 : ¬ (16777216 < len * s) := by omega
            have hz0 : zv.cells.size = s := by rw [← hzl, ← hzv]; simp
            by_cases h0 : len * s = 0
            · have hm0 : madeCells zv.cells (len * s) = #[] := by rw [h0]; simp [madeCells, Array.range_zero']
              rw [hm0] at e1
              have h0' : len = 0 ∨ s = 0 := Nat.mul_eq_zero.1 h0
              simp [Instr.buildSlice, run_underlying ht, szOf_run hs, h0, h0', Array.range_zero', e1, newRow, rowOf]
            · have h0' : ¬ (len = 0 ∨ s = 0) := fun h => h0 (Nat.mul_eq_zero.2 h)
              have e4 : (Array.range (len * s)).map (zv.cells[· % zv.cells.size]!) = madeCells zv.cells (len * s) := rfl
              simp [Instr.buildSlice, run_underlying ht, szOf_run hs, n1, h0', hzr, e4, e1, newRow, rowOf]
              intro h; exact absurd h h0
          · cases hv
        · cases hc
      · cases hc
    · cases hc
  case makeSlice t l c =>
    split at hc
    · rename_i e ht
      split at hc
      · rename_i i z hi hz
        split at hc
        · rename_i hcond
          obtain ⟨hzl, hzok⟩ := hcond
          simp only [Option.some.injEq] at hc; subst hc
          simp only [alop] at hv
          have e1 := E l (by simp [Op.operands]); have e2 := E c (by simp [Op.operands])
          generalize ev ρ l = u at *
          generalize hu : a.eval l = u' at e1
          generalize ev ρ c = z1 at *
          generalize hz1 : a.eval c = z1' at e2
          cases e1 <;> (try simp only [reduceCtorEq] at hv)
          cases e2 <;> (try simp only [reduceCtorEq] at hv)
          split at hv
          · rename_i kl nl kc nc hb
            obtain ⟨b1, b2, b3, b4⟩ := hb
            simp only [Option.some.injEq, Prod.mk.injEq] at hv; obtain ⟨rfl, rfl⟩ := hv
            obtain ⟨i', zv, hi', hiz, hzv, hzr⟩ := zeroOf_run hz
            rw [hi] at hi'; simp only [Option.some.injEq] at hi'; subst hi'
            refine ⟨madeCells zv.cells (nc.toNat * i.size), e, rowOf nl.toNat nc.toNat, ?_, hrow _ _, fun w => ?_⟩
            · rw [hzl, made_cells hzv]
              · exact made_rels hzok _
              · by_cases h0 : i.size = 0
                · left; rw [h0, Nat.mul_zero]
                · right; intro h; rw [h] at hzl; simp at hzl; omega
            · have := run_make (P := P) w t e i zv ht hi hiz kl kc nl nc b1 b2 b3 b4
              simp [hu, hz1, this, rowOf]
          · cases hv
        · cases hc
      · cases hc
    · cases hc

/-! ### Stores, appends, copies -/
inductive EOp where
  | store (n : Nat) (x v : Operand)
  | append (esz bytes : Nat) (s x : Operand)
  | copy (esz : Nat) (d s : Operand)
  | clear (zero : List Value) (x : Operand)

def Heap.write (h : Heap) (b off : Nat) (vs : List Value) : Option Heap :=
  match h.get b with
  | some o => if h.base ≤ b ∧ off + vs.length ≤ o.cells.length ∧ vs.all (·.oneCell') = true then
      some (h.put b { o with cells := o.cells.take off ++ vs ++ o.cells.drop (off + vs.length) }) else none
  | none => none

/-- The elements of a slice that are appended or copied. -/
def srcA (h : Heap) (esz : Nat) (x : Value) (n : Nat) : Option (List Value) :=
  if n = 0 then some [] else
  match x with
  | .slice (some ⟨b, o, _⟩) _ _ => h.read b o (n * esz)
  | _ => none

def lenA : Value → Option Nat
  | .slice _ l _ => some l
  | _ => none

def growA (h : Heap) (esz : Nat) (cells : List Value) (n : Nat) : Value × Heap :=
  (.slice (some ⟨h.next, 0, some 0⟩) n 0, h.alloc { cells := cells, esz := esz })

def appendA (h : Heap) (esz bytes : Nat) (s x : Value) : Option (Value × Heap) :=
  match lenA x with
  | none => none
  | some n =>
    if n = 0 then (match s with
      | .slice none 0 0 => some (s, h)
      | .slice (some ⟨_, _, none⟩) l cap => if l ≤ cap then some (s, h) else none
      | .slice (some ⟨_, _, some _⟩) _ _ => some (s, h)
      | _ => none)
    else match srcA h esz x n with
      | none => none
      | some news =>
        if news.all (·.oneCell') = true then
          match s with
          | .slice none 0 0 => if n * bytes ≤ 70368744177664 ∧ n ≤ 4611686018427387904 ∧ esz ≠ 0 then some (growA h esz news n) else none
          | .slice (some ⟨b, o, none⟩) l cap =>
            if l + n ≤ cap then (match h.write b (o + l * esz) news with
              | some h' => some (.slice (some ⟨b, o, none⟩) (l + n) cap, h')
              | none => none)
            else (match (if l = 0 then some [] else h.read b o (l * esz)) with
              | some olds => if (l + n) * bytes ≤ 70368744177664 ∧ l + n ≤ 4611686018427387904 ∧ esz ≠ 0 then some (growA h esz (olds ++ news) (l + n)) else none
              | none => none)
          | .slice (some ⟨b, 0, some 0⟩) l 0 => (match h.get b with
            | some o => if h.base ≤ b ∧ o.esz = esz ∧ esz ≠ 0 ∧ l * esz ≤ o.cells.length ∧ (l + n) * bytes ≤ 70368744177664 ∧ l + n ≤ 4611686018427387904 ∧ (o.cells.take (l * esz)).all (·.oneCell') = true then
                some (growA (h.kill b) esz (o.cells.take (l * esz) ++ news) (l + n)) else none
            | none => none)
          | _ => none
        else none

def eop : EOp → (Nat → Value) → Heap → Option (Value × Heap)
  | .store n x v, ρ, h => match ev ρ x with
    | .pointer (some ⟨b, o, none⟩) => if (ev ρ v).cells.toList.length = n then (match h.write b o (ev ρ v).cells.toList with
      | some h' => some (undef, h')
      | none => none) else none
    | _ => none
  | .append esz bytes s x, ρ, h => appendA h esz bytes (ev ρ s) (ev ρ x)
  | .copy esz d s, ρ, h => match lenA (ev ρ d), lenA (ev ρ s) with
    | some ld, some ls =>
      if Nat.min ls ld = 0 then some (.int .i64 0, h) else
      match srcA h esz (ev ρ s) (Nat.min ls ld), ev ρ d with
      | some cs, .slice (some ⟨b, o, _⟩) _ _ => (match h.write b o cs with
        | some h' => some (.int .i64 (Nat.min ls ld : Nat), h')
        | none => none)
      | _, _ => none
    | _, _ => none
  | .clear zero x, ρ, h => match lenA (ev ρ x) with
    | some n => if n = 0 then some (.tuple #[], h) else
      match ev ρ x with
      | .slice (some ⟨b, o, _⟩) _ _ => (match h.write b o (made zero (n * zero.length)) with
        | some h' => some (.tuple #[], h')
        | none => none)
      | _ => none
    | none => none

def cE (P : Program) : Op → Option EOp
  | .store t x v => (szOf P t).map fun n => .store n x v
  | .call { callee := .builtin .append, args, argTypes } => match args.toList, argTypes[0]?, argTypes[1]? with
    | [s, x], some t, some t2 => match P.underlying t, P.underlying t2 with
      | some (.slice e), some (.slice _) => match P.info? e, zeroOf P e with
        | some i, some z => if z.length = i.size then some (.append i.size i.bytes s x) else none
        | _, _ => none
      | _, _ => none
    | _, _, _ => none
  | .call { callee := .builtin .copy, args, argTypes } => match args.toList, argTypes[0]? with
    | [d, s], some t => match P.underlying t with
      | some (.slice e) => (szOf P e).map fun n => .copy n d s
      | _ => none
    | _, _ => none
  | .call { callee := .builtin .clear, args, argTypes } => match args.toList, argTypes[0]? with
    | [x], some t => match P.underlying t with
      | some (.slice e) => match szOf P e, zeroOf P e with
        | some n, some z => if z.length = n ∧ z.all (cellOk 0) = true then some (.clear z x) else none
        | _, _ => none
      | _ => none
    | _, _ => none
  | _ => none

theorem Heap.write_sound {P : Program} {h h' : Heap} {b off : Nat} {vs vs' : List Value} (hw : h.write b off vs = some h') {G : Gh} {w : World} (H : HRel G h w) (F : Fresh G h) (hv : VRels G vs vs') :
    ∃ c k, G b = some (c, k) ∧ ∃ w', (storeCells ⟨c, off, none⟩ vs').run P w = .ok () w' ∧ HRel G h' w' ∧ Fresh G h' ∧ Step G h w G h' w' := by
  unfold Heap.write at hw
  cases hg : h.get b with
  | none => simp [hg] at hw
  | some o =>
    simp only [hg] at hw
    split at hw
    · rename_i hc
      obtain ⟨h1, h2, h3⟩ := hc
      simp only [Option.some.injEq] at hw; subst hw
      obtain ⟨c, k, C, T, e1, e2, e3, e4, e5⟩ := H.store h1 hg hv h2
      have := run_storeCells_at P c off T vs' 0 C w e2 (by simpa using e3) (hv.one h3)
      simp only [Nat.add_zero] at this
      refine ⟨c, k, e1, _, this, e4, ⟨F.le, fun x hx => ⟨(F.free x hx).1, ?_⟩⟩, e5⟩
      have := (F.free x hx).2
      simp only [Heap.put]
      split
      · rename_i e; subst e; rw [hg] at this; cases this
      · exact this
    · cases hw

end Go.AM
