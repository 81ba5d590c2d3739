/- The abstract machine, part 0: abstract memory, and how it stands for the model's memory. -/
import Derived.Orders
import Derived.Tactics
import Derived.Below
import Derived.Laws.AppendOwn
import Derived.Laws.Rows
import Derived.Laws.OwnMore
import Derived.Laws.CopyOwn
import Derived.Laws.IdiomArrays
import Derived.KernelRfl
set_option linter.unusedVariables false
set_option linter.unusedSimpArgs false
namespace Go.AM

/-- What an abstract block is in the model: its block there, and its capacity in elements. -/
abbrev Gh := Nat → Option (Nat × Nat)

def Gh.le (G G' : Gh) : Prop := ∀ b x, G b = some x → G' b = some x
theorem Gh.le_refl (G : Gh) : G.le G := fun _ _ h => h
theorem Gh.le_trans {A B C : Gh} (h : A.le B) (k : B.le C) : A.le C := fun b x e => k b x (h b x e)

mutual
/-- An abstract value and a value of the model. A slice whose capacity is open bears a mark in its address: 0: it may be appended to; 1: it is read alone; 2: it is empty. -/
inductive VRel (G : Gh) : Value → Value → Prop
  | bool (b : Bool) : VRel G (.bool b) (.bool b)
  | int (k : IntKind) (n : Int) : VRel G (.int k n) (.int k n)
  | str (s : ByteArray) : VRel G (.string s) (.string s)
  | nilptr : VRel G (.pointer none) (.pointer none)
  | ptr {b c k : Nat} (o : Nat) (h : G b = some (c, k)) : VRel G (.pointer (some ⟨b, o, none⟩)) (.pointer (some ⟨c, o, none⟩))
  | nilslice : VRel G (.slice none 0 0) (.slice none 0 0)
  | slice {b c k : Nat} (o l m : Nat) (h : G b = some (c, k)) : VRel G (.slice (some ⟨b, o, none⟩) l m) (.slice (some ⟨c, o, none⟩) l m)
  | grown {b c k : Nat} (l : Nat) (h : G b = some (c, k)) (hl : l ≤ k) : VRel G (.slice (some ⟨b, 0, some 0⟩) l 0) (.slice (some ⟨c, 0, none⟩) l k)
  | part {b c k : Nat} (o l m : Nat) (h : G b = some (c, k)) (hl : l ≤ m) : VRel G (.slice (some ⟨b, o, some 1⟩) l 0) (.slice (some ⟨c, o, none⟩) l m)
  | empty (a : Addr) (m : Nat) : VRel G (.slice (some ⟨0, 0, some 2⟩) 0 0) (.slice (some a) 0 m)
  | nilmap : VRel G (.map none) (.map none)
  | nilfunc : VRel G .nilFunc .nilFunc
  | niliface : VRel G .nilIface .nilIface
  | func (f : FuncId) {x x' c c' : List Value} (h : VRels G x x') (hc : VRels G c c') : VRel G (.func (.func f) x.toArray c.toArray) (.func (.func f) x'.toArray c'.toArray)
  | iface (t : TypeId) {v v' : Value} (h : VRel G v v') : VRel G (.iface t v) (.iface t v')
  | agg {c c' : List Value} (h : VRels G c c') : VRel G (.agg c.toArray) (.agg c'.toArray)
  | tuple {c c' : List Value} (h : VRels G c c') : VRel G (.tuple c.toArray) (.tuple c'.toArray)
inductive VRels (G : Gh) : List Value → List Value → Prop
  | nil : VRels G [] []
  | cons {v v' : Value} {l l' : List Value} (h : VRel G v v') (hl : VRels G l l') : VRels G (v :: l) (v' :: l')
end

mutual
theorem VRel.mono {G G' : Gh} (hg : G.le G') : ∀ {v v' : Value}, VRel G v v' → VRel G' v v'
  | _, _, .bool b => .bool b
  | _, _, .int k n => .int k n
  | _, _, .str s => .str s
  | _, _, .nilptr => .nilptr
  | _, _, .ptr o h => .ptr o (hg _ _ h)
  | _, _, .nilslice => .nilslice
  | _, _, .slice o l m h => .slice o l m (hg _ _ h)
  | _, _, .grown l h hl => .grown l (hg _ _ h) hl
  | _, _, .part o l m h hl => .part o l m (hg _ _ h) hl
  | _, _, .empty a m => .empty a m
  | _, _, .nilmap => .nilmap
  | _, _, .nilfunc => .nilfunc
  | _, _, .niliface => .niliface
  | _, _, .func f h hc => .func f (h.mono hg) (hc.mono hg)
  | _, _, .iface t h => .iface t (h.mono hg)
  | _, _, .agg h => .agg (h.mono hg)
  | _, _, .tuple h => .tuple (h.mono hg)
theorem VRels.mono {G G' : Gh} (hg : G.le G') : ∀ {l l' : List Value}, VRels G l l' → VRels G' l l'
  | _, _, .nil => .nil
  | _, _, .cons h hl => .cons (h.mono hg) (hl.mono hg)
end

theorem VRels.length {G : Gh} : ∀ {l l' : List Value}, VRels G l l' → l'.length = l.length
  | _, _, .nil => rfl
  | _, _, .cons _ hl => by simp [hl.length]

theorem VRels.get {G : Gh} : ∀ {l l' : List Value}, VRels G l l' → ∀ (i : Nat) (v : Value), l[i]? = some v → ∃ v', l'[i]? = some v' ∧ VRel G v v'
  | _, _, .nil, i, v, h => by simp at h
  | _, _, .cons h hl, 0, v, hv => by simp at hv; subst hv; exact ⟨_, rfl, h⟩
  | _, _, .cons h hl, i + 1, v, hv => by simpa using hl.get i v (by simpa using hv)

theorem VRels.of_get {G : Gh} : ∀ {l l' : List Value}, l'.length = l.length → (∀ (i : Nat) (v : Value), l[i]? = some v → ∃ v', l'[i]? = some v' ∧ VRel G v v') → VRels G l l'
  | [], [], _, _ => .nil
  | [], _ :: _, hl, _ => by simp at hl
  | _ :: _, [], hl, _ => by simp at hl
  | v :: l, v' :: l', hl, h => .cons (by obtain ⟨u, hu, hr⟩ := h 0 v rfl; simp at hu; subst hu; exact hr)
      (VRels.of_get (by simpa using hl) fun i w hw => by simpa using h (i + 1) w (by simpa using hw))

theorem VRels.append {G : Gh} : ∀ {a a' b b' : List Value}, VRels G a a' → VRels G b b' → VRels G (a ++ b) (a' ++ b')
  | _, _, _, _, .nil, h => h
  | _, _, _, _, .cons h hl, k => .cons h (hl.append k)

theorem VRels.take {G : Gh} : ∀ {a a' : List Value} (n : Nat), VRels G a a' → VRels G (a.take n) (a'.take n)
  | _, _, 0, _ => by simp; exact .nil
  | _, _, n + 1, .nil => by simp; exact .nil
  | _, _, n + 1, .cons h hl => by simp; exact .cons h (hl.take n)
theorem VRels.drop {G : Gh} : ∀ {a a' : List Value} (n : Nat), VRels G a a' → VRels G (a.drop n) (a'.drop n)
  | _, _, 0, h => by simpa using h
  | _, _, n + 1, .nil => by simp; exact .nil
  | _, _, n + 1, .cons h hl => by simpa using hl.drop n

/-- A cell that leads nowhere but below 'base', and whose capacity is as it says. -/
def cellOk (base : Nat) : Value → Bool
  | .bool _ | .int .. | .string _ | .pointer none | .map none | .nilFunc | .nilIface => true
  | .pointer (some a) => decide (a.block < base) && a.spot.isNone
  | .slice none l m => l == 0 && m == 0
  | .slice (some a) _ _ => decide (a.block < base) && a.spot.isNone
  | _ => false

def Low (G : Gh) (base : Nat) : Prop := ∀ b, b < base → ∃ k, G b = some (b, k)

theorem VRel.of_cellOk {G : Gh} {base : Nat} (hG : Low G base) : ∀ {v : Value}, cellOk base v = true → VRel G v v := by
  intro v h
  match v, h with
  | .bool b, _ => exact .bool b
  | .int k n, _ => exact .int k n
  | .string s, _ => exact .str s
  | .pointer none, _ => exact .nilptr
  | .map none, _ => exact .nilmap
  | .nilFunc, _ => exact .nilfunc
  | .nilIface, _ => exact .niliface
  | .pointer (some ⟨b, o, none⟩), h => simp [cellOk] at h; obtain ⟨k, hk⟩ := hG b h; exact .ptr o hk
  | .pointer (some ⟨b, o, some _⟩), h => simp [cellOk] at h
  | .slice none l m, h => simp [cellOk] at h; obtain ⟨rfl, rfl⟩ := h; exact .nilslice
  | .slice (some ⟨b, o, none⟩) l m, h => simp [cellOk] at h; obtain ⟨k, hk⟩ := hG b h; exact .slice o l m hk
  | .slice (some ⟨b, o, some _⟩) l m, h => simp [cellOk] at h

/-- An abstract block: its cells, and the size of an element if its capacity is open (0: it isn't). -/
structure Blk where
  cells : List Value
  esz : Nat

/-- Abstract memory: what lies below 'base' came in, and is only read. -/
structure Heap where
  get : Nat → Option Blk
  next : Nat
  base : Nat

def Heap.alloc (h : Heap) (o : Blk) : Heap := { h with get := fun b => if b = h.next then some o else h.get b, next := h.next + 1 }
def Heap.put (h : Heap) (b : Nat) (o : Blk) : Heap := { h with get := fun c => if c = b then some o else h.get c }
def Heap.kill (h : Heap) (b : Nat) : Heap := { h with get := fun c => if c = b then none else h.get c }

/-- The cells of a part of a block. -/
def Heap.cells (h : Heap) (b off n : Nat) : Option (List Value) :=
  match h.get b with
  | some o => if off + n ≤ o.cells.length then some ((o.cells.drop off).take n) else none
  | none => none

/-- The abstract memory stands for the world's. -/
structure HRel (G : Gh) (h : Heap) (w : World) : Prop where
  low : Low G h.base
  size : h.base ≤ w.heap.size
  ro : ∀ b o, b < h.base → h.get b = some o → ∃ C T fz, w.heap[b]? = some (.cells C T fz) ∧ C.toList = o.cells
  own : ∀ b o, h.base ≤ b → h.get b = some o → ∃ c k C T, G b = some (c, k) ∧ h.base ≤ c ∧ w.heap[c]? = some (.cells C T (0, 0)) ∧
    (o.esz ≠ 0 → C.size = k * o.esz) ∧ o.cells.length ≤ C.size ∧ VRels G o.cells (C.toList.take o.cells.length)
  inj : ∀ b b' c k k', h.base ≤ b → h.base ≤ b' → (h.get b).isSome → (h.get b').isSome → G b = some (c, k) → G b' = some (c, k') → b = b'

/-- From the next number on nothing is taken. -/
structure Fresh (G : Gh) (h : Heap) : Prop where
  le : h.base ≤ h.next
  free : ∀ b, h.next ≤ b → G b = none ∧ h.get b = none

/-- The world's block 'c' is written by the abstract memory. -/
def Mine (G : Gh) (h : Heap) (c : Nat) : Prop := ∃ b k, h.base ≤ b ∧ (h.get b).isSome ∧ G b = some (c, k)

/-- A step: what it knows it keeps; it leaves alone every block that isn't its own; its own blocks stay its own or are new. -/
structure Step (G : Gh) (h : Heap) (w : World) (G' : Gh) (h' : Heap) (w' : World) : Prop where
  le : G.le G'
  base : h'.base = h.base
  next : h.next ≤ h'.next
  os : w'.os = w.os
  tape : w'.tape = w.tape
  output : w'.output = w.output
  size : w.heap.size ≤ w'.heap.size
  keeps : ∀ c, c < w.heap.size → ¬ Mine G h c → w'.heap[c]? = w.heap[c]?
  img : ∀ c, Mine G' h' c → Mine G h c ∨ w.heap.size ≤ c

theorem Step.refl (G : Gh) (h : Heap) (w : World) : Step G h w G h w := ⟨G.le_refl, rfl, Nat.le_refl _, rfl, rfl, rfl, Nat.le_refl _, fun _ _ _ => rfl, fun _ h => .inl h⟩

theorem Step.trans {G h w G1 h1 w1 G2 h2 w2} (a : Step G h w G1 h1 w1) (b : Step G1 h1 w1 G2 h2 w2) : Step G h w G2 h2 w2 where
  le := Gh.le_trans a.le b.le
  base := b.base.trans a.base
  next := Nat.le_trans a.next b.next
  os := b.os.trans a.os
  tape := b.tape.trans a.tape
  output := b.output.trans a.output
  size := Nat.le_trans a.size b.size
  keeps := fun c hc hm => by
    rw [b.keeps c (Nat.lt_of_lt_of_le hc a.size) (fun hm1 => ?_), a.keeps c hc hm]
    rcases a.img c hm1 with h | h
    · exact hm h
    · omega
  img := fun c hc => by
    rcases b.img c hc with h | h
    · exact a.img c h
    · exact .inr (Nat.le_trans a.size h)

theorem HRel.of_heap {G h w w'} (H : HRel G h w) (e : w'.heap = w.heap) : HRel G h w' :=
  ⟨H.low, by rw [e]; exact H.size, fun b o hb hg => by rw [e]; exact H.ro b o hb hg, fun b o hb hg => by rw [e]; exact H.own b o hb hg, H.inj⟩
theorem Step.of_heap {G h w w'} (e : w'.heap = w.heap) (e1 : w'.os = w.os) (e2 : w'.tape = w.tape) (e3 : w'.output = w.output) : Step G h w G h w' :=
  ⟨G.le_refl, rfl, Nat.le_refl _, e1, e2, e3, by rw [e]; exact Nat.le_refl _, fun c _ _ => by rw [e], fun _ h => .inl h⟩
theorem HRel.drew {G h w} (H : HRel G h w) : HRel G h w.drew := H.of_heap rfl
theorem Step.drew (G : Gh) (h : Heap) (w : World) : Step G h w G h w.drew := .of_heap rfl rfl rfl rfl

theorem VRel.one {G : Gh} {v v' : Value} (h : VRel G v v') : v'.oneCell' = v.oneCell' := by cases h <;> rfl
theorem VRels.one {G : Gh} : ∀ {l l' : List Value}, VRels G l l' → l.all (·.oneCell') = true → ∀ v ∈ l', v.oneCell' = true
  | _, _, .nil, _ => by simp
  | _, _, .cons h hl, hh => by
    simp only [List.all_cons, Bool.and_eq_true] at hh
    intro v hv
    rcases List.mem_cons.1 hv with rfl | hv
    · rw [h.one]; exact hh.1
    · exact hl.one hh.2 v hv

theorem cellOk.rels {G : Gh} {base : Nat} (hG : Low G base) : ∀ {l : List Value}, l.all (cellOk base) = true → VRels G l l
  | [], _ => .nil
  | v :: l, h => by
    simp only [List.all_cons, Bool.and_eq_true] at h
    exact .cons (VRel.of_cellOk hG h.1) (cellOk.rels hG h.2)

theorem cell?_of {w : World} {c : Nat} {C : Array Value} {T : TypeId} {fz : Nat × Nat} (h : w.heap[c]? = some (.cells C T fz)) (i : Nat) : w.cell? ⟨c, i, none⟩ = C[i]? := by
  simp [World.cell?, h]

/-- What a cell that came in is here: an empty slice may lead anywhere. -/
def canon (base : Nat) (v : Value) : Option Value :=
  if cellOk base v = true then some v else match v with
    | .slice (some _) 0 _ => some (.slice (some ⟨0, 0, some 2⟩) 0 0)
    | _ => none
def canons (base : Nat) : List Value → Option (List Value)
  | [] => some []
  | v :: l => match canon base v, canons base l with
    | some u, some r => some (u :: r)
    | _, _ => none

theorem canon_rel {G : Gh} {base : Nat} (hG : Low G base) {v u : Value} (h : canon base v = some u) : VRel G u v := by
  unfold canon at h
  split at h
  · rename_i hc; simp only [Option.some.injEq] at h; subst h; exact VRel.of_cellOk hG hc
  · split at h
    · simp only [Option.some.injEq] at h; subst h; exact .empty _ _
    · cases h
theorem canons_rel {G : Gh} {base : Nat} (hG : Low G base) : ∀ {l r : List Value}, canons base l = some r → VRels G r l
  | [], r, h => by simp only [canons, Option.some.injEq] at h; subst h; exact .nil
  | v :: l, r, h => by
    simp only [canons] at h
    split at h
    · rename_i u r' h1 h2
      simp only [Option.some.injEq] at h; subst h
      exact .cons (canon_rel hG h1) (canons_rel hG h2)
    · cases h
theorem canons_len {base : Nat} : ∀ {l r : List Value}, canons base l = some r → r.length = l.length
  | [], r, h => by simp only [canons, Option.some.injEq] at h; subst h; rfl
  | v :: l, r, h => by
    simp only [canons] at h
    split at h
    · rename_i u r' h1 h2
      simp only [Option.some.injEq] at h; subst h
      simp [canons_len h2]
    · cases h
theorem canons_append {base : Nat} : ∀ {a b ra rb : List Value}, canons base a = some ra → canons base b = some rb → canons base (a ++ b) = some (ra ++ rb)
  | [], b, ra, rb, h, k => by simp only [canons, Option.some.injEq] at h; subst h; exact k
  | v :: a, b, ra, rb, h, k => by
    simp only [canons] at h
    split at h
    · rename_i u r' h1 h2
      simp only [Option.some.injEq] at h; subst h
      simp only [List.cons_append, canons, h1, canons_append h2 k]
    · cases h
theorem canons_split {base : Nat} : ∀ {a b r : List Value}, canons base (a ++ b) = some r → canons base a = some (r.take a.length) ∧ canons base b = some (r.drop a.length)
  | [], b, r, h => ⟨rfl, h⟩
  | v :: a, b, r, h => by
    simp only [List.cons_append, canons] at h
    split at h
    · rename_i u r' h1 h2
      simp only [Option.some.injEq] at h; subst h
      have := canons_split h2
      simp only [canons, h1, this.1, List.length_cons, List.take_succ_cons, List.drop_succ_cons]
      exact ⟨trivial, this.2⟩
    · cases h

/-- Cells of the abstract memory that may be read: a part of a block of its own, or cells that came in and lead nowhere else. -/
def Heap.read (h : Heap) (b off n : Nat) : Option (List Value) :=
  match h.cells b off n with
  | some cs => if h.base ≤ b then some cs else canons h.base cs
  | none => none

theorem HRel.cells {G h w} (H : HRel G h w) {b off n : Nat} {cs : List Value} (hr : h.read b off n = some cs) :
    ∃ c k cs', G b = some (c, k) ∧ VRels G cs cs' ∧ cs.length = n ∧ ∀ j v, cs'[j]? = some v → w.cell? ⟨c, off + j, none⟩ = some v := by
  unfold Heap.read Heap.cells at hr
  cases hg : h.get b with
  | none => simp [hg] at hr
  | some o =>
    simp only [hg] at hr
    by_cases hle : off + n ≤ o.cells.length
    · simp only [hle, if_true] at hr
      by_cases hb : b < h.base
      · have hnb : ¬ h.base ≤ b := by omega
        simp only [hnb, if_false] at hr
        obtain ⟨k, hk⟩ := H.low b hb
        obtain ⟨C, T, fz, hw, hC⟩ := H.ro b o hb hg
        refine ⟨b, k, _, hk, canons_rel H.low hr, by rw [canons_len hr]; simp; omega, fun j v hv => ?_⟩
        rw [cell?_of hw]
        rw [← hC] at hv
        simp [List.getElem?_take, List.getElem?_drop] at hv
        exact hv.2
      · have hbb : h.base ≤ b := by omega
        simp only [hbb, if_true, Option.some.injEq] at hr
        subst hr
        obtain ⟨c, k, C, T, hG, hc, hw, _, hl, hv⟩ := H.own b o hbb hg
        refine ⟨c, k, _, hG, (hv.drop off).take n, by simp; omega, fun j v hv => ?_⟩
        rw [cell?_of hw]
        simp [List.getElem?_take, List.getElem?_drop] at hv
        exact hv.2.2
    · simp [hle] at hr

def Gh.set (G : Gh) (b : Nat) (x : Nat × Nat) : Gh := fun c => if c = b then some x else G c
theorem Gh.le_set {G : Gh} {b : Nat} {x : Nat × Nat} (h : G b = none) : G.le (G.set b x) := fun c y hy => by
  unfold Gh.set
  split
  · rename_i e; subst e; rw [h] at hy; cases hy
  · exact hy

theorem heap_alloc_old {w : World} {o : Obj} {c : Nat} (h : c < w.heap.size) : (w.alloc o).heap[c]? = w.heap[c]? := by
  show (w.heap.push o)[c]? = _
  rw [Array.getElem?_push, if_neg (by omega)]
theorem heap_alloc_new {w : World} {o : Obj} : (w.alloc o).heap[w.heap.size]? = some o := by
  show (w.heap.push o)[w.heap.size]? = _
  rw [Array.getElem?_push, if_pos rfl]
theorem lt_of_heap {w : World} {c : Nat} {o : Obj} (h : w.heap[c]? = some o) : c < w.heap.size := (Array.getElem?_eq_some_iff.1 h).1

/-- A new block, under the number 'id'. -/
theorem HRel.new {G h w} (H : HRel G h w) {id : Nat} (hid : h.base ≤ id) (hG : G id = none) {o : Blk} {C : Array Value} {T : TypeId} {k : Nat}
    (hk : o.esz ≠ 0 → C.size = k * o.esz) (hl : o.cells.length ≤ C.size) (hv : VRels G o.cells (C.toList.take o.cells.length)) :
    HRel (G.set id (w.heap.size, k)) (h.put id o) (w.alloc (.cells C T)) where
  low := fun b hb => by obtain ⟨x, hx⟩ := H.low b hb; exact ⟨x, Gh.le_set hG _ _ hx⟩
  size := by have := H.size; simp [Heap.put]; omega
  ro := fun b x hb hx => by
    simp only [Heap.put] at hb hx
    rw [if_neg (by omega)] at hx
    obtain ⟨C', T', fz, h1, h2⟩ := H.ro b x hb hx
    exact ⟨C', T', fz, by rw [heap_alloc_old (lt_of_heap h1)]; exact h1, h2⟩
  own := fun b x hb hx => by
    simp only [Heap.put] at hb hx
    split at hx
    · rename_i e
      simp only [Option.some.injEq] at hx
      subst hx; subst e
      exact ⟨w.heap.size, k, C, T, by simp [Gh.set], H.size, heap_alloc_new, hk, hl, hv.mono (Gh.le_set hG)⟩
    · obtain ⟨c, k', C', T', h1, h2, h3, h4, h5, h6⟩ := H.own b x hb hx
      exact ⟨c, k', C', T', Gh.le_set hG _ _ h1, h2, by rw [heap_alloc_old (lt_of_heap h3)]; exact h3, h4, h5, h6.mono (Gh.le_set hG)⟩
  inj := fun b b' c k1 k2 hb hb' hs hs' e e' => by
    simp only [Heap.put] at hb hb' hs hs'
    simp only [Gh.set] at e e'
    by_cases h1 : b = id <;> by_cases h2 : b' = id
    · rw [h1, h2]
    · exfalso
      rw [if_pos h1] at e
      rw [if_neg h2] at e' hs'
      simp only [Option.some.injEq, Prod.mk.injEq] at e
      obtain ⟨x, hx⟩ := Option.isSome_iff_exists.1 hs'
      obtain ⟨c', k', C', T', g1, g2, g3, _⟩ := H.own b' x hb' hx
      rw [e'] at g1; simp only [Option.some.injEq, Prod.mk.injEq] at g1
      have := lt_of_heap g3
      omega
    · exfalso
      rw [if_pos h2] at e'
      rw [if_neg h1] at e hs
      simp only [Option.some.injEq, Prod.mk.injEq] at e'
      obtain ⟨x, hx⟩ := Option.isSome_iff_exists.1 hs
      obtain ⟨c', k', C', T', g1, g2, g3, _⟩ := H.own b x hb hx
      rw [e] at g1; simp only [Option.some.injEq, Prod.mk.injEq] at g1
      have := lt_of_heap g3
      omega
    · rw [if_neg h1] at e hs
      rw [if_neg h2] at e' hs'
      exact H.inj b b' c k1 k2 hb hb' hs hs' e e'

theorem Step.new {G h w} {id : Nat} (hG : G id = none) (hh : h.get id = none) (o : Blk) (C : Array Value) (T : TypeId) (k n : Nat) (hn : h.next ≤ n) :
    Step G h w (G.set id (w.heap.size, k)) { h.put id o with next := n } (w.alloc (.cells C T)) where
  le := Gh.le_set hG
  base := rfl
  next := hn
  os := rfl
  tape := rfl
  output := rfl
  size := by simp
  keeps := fun c hc _ => heap_alloc_old hc
  img := fun c ⟨b, k1, hb, hs, e⟩ => by
    simp only [Heap.put, Gh.set] at hb hs e
    by_cases h1 : b = id
    · rw [if_pos h1] at e; simp only [Option.some.injEq, Prod.mk.injEq] at e; exact .inr (by omega)
    · rw [if_neg h1] at e hs; exact .inl ⟨b, k1, hb, hs, e⟩

theorem HRel.of_next {G h w} (H : HRel G h w) (n : Nat) : HRel G { h with next := n } w := ⟨H.low, H.size, H.ro, H.own, H.inj⟩

theorem Fresh.new {G h} (F : Fresh G h) (o : Blk) (x : Nat × Nat) : Fresh (G.set h.next x) (h.alloc o) where
  le := by have := F.le; simp only [Heap.alloc]; omega
  free := fun b hb => by
    simp only [Heap.alloc] at hb
    simp only [Heap.alloc, Gh.set]
    rw [if_neg (by omega), if_neg (by omega)]
    exact F.free b (by omega)

theorem Heap.alloc_eq (h : Heap) (o : Blk) : h.alloc o = { h.put h.next o with next := h.next + 1 } := rfl

/-- A store into a block of one's own. -/
theorem HRel.store {G h w} (H : HRel G h w) {b : Nat} {o : Blk} (hb : h.base ≤ b) (hg : h.get b = some o) {off : Nat} {vs vs' : List Value} (hv : VRels G vs vs') (hl : off + vs.length ≤ o.cells.length) :
    ∃ c k C T, G b = some (c, k) ∧ w.heap[c]? = some (.cells C T (0, 0)) ∧ off + vs'.length ≤ C.size ∧
      HRel G (h.put b { o with cells := o.cells.take off ++ vs ++ o.cells.drop (off + vs.length) }) (w.setRow c (C.toList.take off ++ vs' ++ C.toList.drop (off + vs'.length)).toArray) ∧
      Step G h w G (h.put b { o with cells := o.cells.take off ++ vs ++ o.cells.drop (off + vs.length) }) (w.setRow c (C.toList.take off ++ vs' ++ C.toList.drop (off + vs'.length)).toArray) := by
  obtain ⟨c, k, C, T, h1, h2, h3, h4, h5, h6⟩ := H.own b o hb hg
  have hlen := hv.length
  refine ⟨c, k, C, T, h1, h3, by omega, ⟨H.low, by simpa [Heap.put] using H.size, fun b1 x hb1 hx => ?_, fun b1 x hb1 hx => ?_, fun b1 b2 c1 k1 k2 g1 g2 s1 s2 => ?_⟩,
    ⟨G.le_refl, rfl, Nat.le_refl _, rfl, rfl, rfl, by simp, fun c1 hc1 hm => ?_, fun c1 ⟨b1, k1, g1, g2, g3⟩ => .inl ?_⟩⟩
  · simp only [Heap.put] at hb1 hx
    rw [if_neg (by omega)] at hx
    obtain ⟨C', T', fz, e1, e2⟩ := H.ro b1 x hb1 hx
    exact ⟨C', T', fz, by rw [setRow_other _ _ _ _ (by omega)]; exact e1, e2⟩
  · simp only [Heap.put] at hb1 hx
    split at hx
    · rename_i e; subst e
      simp only [Option.some.injEq] at hx; subst hx
      have hlenC : C.toList.length = C.size := by simp
      have hL : (o.cells.take off ++ vs ++ o.cells.drop (off + vs.length)).length = o.cells.length := by simp; omega
      have hL' : (C.toList.take off ++ vs' ++ C.toList.drop (off + vs'.length)).toArray.size = C.size := by simp; omega
      refine ⟨c, k, _, T, h1, h2, setRow_heap w c C _ T (0, 0) h3, fun he => ?_, ?_, ?_⟩
      · rw [hL']; exact h4 he
      · rw [hL, hL']; exact h5
      · simp only [hL]
        have e1 : (C.toList.take off ++ vs' ++ C.toList.drop (off + vs'.length)).take o.cells.length
            = (C.toList.take o.cells.length).take off ++ vs' ++ (C.toList.take o.cells.length).drop (off + vs'.length) := by
          apply List.ext_getElem?
          intro i
          simp only [List.getElem?_take, List.getElem?_append, List.length_append, List.length_take, List.getElem?_drop, hlenC]
          by_cases q1 : i < off
          · have a1 : i < o.cells.length := by omega
            have a2 : i < min off C.size + vs'.length := by omega
            have a3 : i < min off C.size := by omega
            have a4 : i < min off (min o.cells.length C.size) + vs'.length := by omega
            have a5 : i < min off (min o.cells.length C.size) := by omega
            simp [a1, a2, a3, a4, a5, q1]
          · by_cases q2 : i < off + vs'.length
            · have a1 : i < o.cells.length := by omega
              have a2 : i < min off C.size + vs'.length := by omega
              have a3 : ¬ i < min off C.size := by omega
              have a4 : i < min off (min o.cells.length C.size) + vs'.length := by omega
              have a5 : ¬ i < min off (min o.cells.length C.size) := by omega
              have a6 : min off C.size = off := by omega
              have a7 : min off (min o.cells.length C.size) = off := by omega
              simp [a1, a2, a3, a4, a5, a6, a7, q1, q2]
            · have a2 : ¬ i < min off C.size + vs'.length := by omega
              have a4 : ¬ i < min off (min o.cells.length C.size) + vs'.length := by omega
              have a6 : min off C.size = off := by omega
              have a7 : min off (min o.cells.length C.size) = off := by omega
              have a8 : off + vs'.length + (i - (off + vs'.length)) = i := by omega
              simp [a2, a4, a6, a7, a8, q1, q2]
        rw [e1, hlen]
        exact ((h6.take off).append hv).append (h6.drop _)
    · obtain ⟨c', k', C', T', e1, e2, e3, e4, e5, e6⟩ := H.own b1 x hb1 hx
      have hne : c' ≠ c := fun e => by
        subst e
        have := H.inj b1 b c' k' k hb1 hb (by simp [hx]) (by simp [hg]) e1 h1
        contradiction
      exact ⟨c', k', C', T', e1, e2, by rw [setRow_other _ _ _ _ hne]; exact e3, e4, e5, e6⟩
  · simp only [Heap.put] at g1 g2 s1 s2
    have q : ∀ x, ((if x = b then some { o with cells := o.cells.take off ++ vs ++ o.cells.drop (off + vs.length) } else h.get x) : Option Blk).isSome = true → (h.get x).isSome = true := by
      intro x hx
      split at hx
      · rename_i e; subst e; simp [hg]
      · exact hx
    exact H.inj b1 b2 c1 k1 k2 g1 g2 (q _ s1) (q _ s2)
  · rw [setRow_other _ _ _ _ (fun e => hm ⟨b, k, hb, by simp [hg], by rw [e]; exact h1⟩)]
  · simp only [Heap.put] at g1 g2
    refine ⟨b1, k1, g1, ?_, g3⟩
    split at g2
    · rename_i e; subst e; simp [hg]
    · exact g2

/-- What is no longer looked at. -/
theorem HRel.kill {G h w} (H : HRel G h w) (b : Nat) : HRel G (h.kill b) w := by
  have q : ∀ x o, (h.kill b).get x = some o → h.get x = some o := by
    intro x o hx
    simp only [Heap.kill] at hx
    split at hx
    · cases hx
    · exact hx
  have q' : ∀ x, ((h.kill b).get x).isSome = true → (h.get x).isSome = true := by
    intro x hx
    obtain ⟨o, ho⟩ := Option.isSome_iff_exists.1 hx
    rw [q x o ho]; rfl
  exact ⟨H.low, H.size, fun x o hx ho => H.ro x o hx (q x o ho), fun x o hx ho => H.own x o hx (q x o ho),
    fun b1 b2 c k k' g1 g2 s1 s2 => H.inj b1 b2 c k k' g1 g2 (q' _ s1) (q' _ s2)⟩
theorem Step.kill (G : Gh) (h : Heap) (w : World) (b : Nat) : Step G h w G (h.kill b) w where
  le := G.le_refl
  base := rfl
  next := Nat.le_refl _
  os := rfl
  tape := rfl
  output := rfl
  size := Nat.le_refl _
  keeps := fun _ _ _ => rfl
  img := fun c ⟨x, k, g1, g2, g3⟩ => .inl ⟨x, k, g1, by
    simp only [Heap.kill] at g2
    split at g2
    · simp at g2
    · exact g2, g3⟩

/-- An append that may have been made in place: the old block is given up, and its cells go on under a new number. -/
theorem HRel.regrow {G h w} (H : HRel G h w) {b id : Nat} {o : Blk} (hb : h.base ≤ b) (hg : h.get b = some o) (hid : h.base ≤ id) (hG : G id = none) {c k : Nat} {C : Array Value} {T : TypeId}
    (h1 : G b = some (c, k)) (h3 : w.heap[c]? = some (.cells C T (0, 0))) {m : Nat} (hm : m ≤ o.cells.length) {vs vs' : List Value} (hv : VRels G vs vs') (hl : m + vs'.length ≤ C.size) :
    HRel (G.set id (c, k)) ((h.kill b).put id { cells := o.cells.take m ++ vs, esz := o.esz }) (w.setRow c (C.toList.take m ++ vs' ++ C.toList.drop (m + vs'.length)).toArray) := by
  obtain ⟨c0, k0, C0, T0, e1, h2, e3, h4, h5, h6⟩ := H.own b o hb hg
  rw [h1] at e1; simp only [Option.some.injEq, Prod.mk.injEq] at e1; obtain ⟨rfl, rfl⟩ := e1
  rw [h3] at e3; simp only [Option.some.injEq, Obj.cells.injEq, and_true] at e3; obtain ⟨rfl, rfl⟩ := e3
  have hlen := hv.length
  have hset := Gh.le_set (x := (c, k)) hG
  have hne : id ≠ b := fun e => by subst e; rw [hG] at h1; cases h1
  refine ⟨fun x hx => ?_, by simpa [Heap.put, Heap.kill] using H.size, fun b1 x hb1 hx => ?_, fun b1 x hb1 hx => ?_, fun b1 b2 c1 k1 k2 g1 g2 s1 s2 q1 q2 => ?_⟩
  · obtain ⟨y, hy⟩ := H.low x hx; exact ⟨y, hset _ _ hy⟩
  · simp only [Heap.put, Heap.kill] at hb1 hx
    rw [if_neg (by omega), if_neg (by omega)] at hx
    obtain ⟨C', T', fz, e1, e2⟩ := H.ro b1 x hb1 hx
    exact ⟨C', T', fz, by rw [setRow_other _ _ _ _ (by omega)]; exact e1, e2⟩
  · simp only [Heap.put, Heap.kill] at hb1 hx
    split at hx
    · rename_i e; subst e
      simp only [Option.some.injEq] at hx; subst hx
      have hlenC : C.toList.length = C.size := by simp
      have hL' : (C.toList.take m ++ vs' ++ C.toList.drop (m + vs'.length)).toArray.size = C.size := by simp; omega
      refine ⟨c, k, _, T, by simp [Gh.set], h2, setRow_heap w c C _ T (0, 0) h3, fun he => by rw [hL']; exact h4 he, by rw [hL']; simp; omega, ?_⟩
      have e1 : (C.toList.take m ++ vs' ++ C.toList.drop (m + vs'.length)).take (o.cells.take m ++ vs).length = C.toList.take m ++ vs' := by
        have a1 : (o.cells.take m ++ vs).length = (C.toList.take m ++ vs').length := by simp; omega
        rw [a1, List.take_left']
        rfl
      show VRels _ _ ((C.toList.take m ++ vs' ++ C.toList.drop (m + vs'.length)).take (o.cells.take m ++ vs).length)
      rw [e1]
      have h7 := (h6.take m)
      rw [List.take_take, Nat.min_eq_left hm] at h7
      exact (h7.append hv).mono hset
    · split at hx
      · cases hx
      · rename_i n1 n2
        obtain ⟨c', k', C', T', e1, e2, e3, e4, e5, e6⟩ := H.own b1 x hb1 hx
        have hne : c' ≠ c := fun e => by
          subst e
          exact n2 (H.inj b1 b c' k' k hb1 hb (by simp [hx]) (by simp [hg]) e1 h1)
        exact ⟨c', k', C', T', hset _ _ e1, e2, by rw [setRow_other _ _ _ _ hne]; exact e3, e4, e5, e6.mono hset⟩
  · simp only [Heap.put, Heap.kill] at g1 g2 s1 s2
    simp only [Gh.set] at q1 q2
    by_cases a1 : b1 = id <;> by_cases a2 : b2 = id
    · rw [a1, a2]
    · exfalso
      rw [if_pos a1] at q1
      rw [if_neg a2] at q2 s2
      simp only [Option.some.injEq, Prod.mk.injEq] at q1
      split at s2
      · simp at s2
      · rename_i n2
        obtain ⟨rfl, rfl⟩ := q1
        exact n2 (H.inj b2 b c k2 k g2 hb s2 (by simp [hg]) q2 h1)
    · exfalso
      rw [if_pos a2] at q2
      rw [if_neg a1] at q1 s1
      simp only [Option.some.injEq, Prod.mk.injEq] at q2
      split at s1
      · simp at s1
      · rename_i n1
        obtain ⟨rfl, rfl⟩ := q2
        exact n1 (H.inj b1 b c k1 k g1 hb s1 (by simp [hg]) q1 h1)
    · rw [if_neg a1] at q1 s1
      rw [if_neg a2] at q2 s2
      split at s1
      · simp at s1
      · split at s2
        · simp at s2
        · exact H.inj b1 b2 c1 k1 k2 g1 g2 s1 s2 q1 q2

theorem Step.regrow {G h w} (H : HRel G h w) {b id : Nat} {o : Blk} (hb : h.base ≤ b) (hg : h.get b = some o) (hG : G id = none) {c k : Nat} (h1 : G b = some (c, k)) (o' : Blk) (C' : Array Value) (n : Nat) (hn : h.next ≤ n) :
    Step G h w (G.set id (c, k)) { (h.kill b).put id o' with next := n } (w.setRow c C') where
  le := Gh.le_set hG
  base := rfl
  next := hn
  os := rfl
  tape := rfl
  output := rfl
  size := by simp
  keeps := fun c1 hc1 hm => by rw [setRow_other _ _ _ _ (fun e => hm ⟨b, k, hb, by simp [hg], by rw [e]; exact h1⟩)]
  img := fun c1 ⟨b1, k1, g1, g2, g3⟩ => by
    simp only [Heap.put, Heap.kill] at g1 g2
    simp only [Gh.set] at g3
    by_cases a1 : b1 = id
    · rw [if_pos a1] at g3; simp only [Option.some.injEq, Prod.mk.injEq] at g3
      exact .inl ⟨b, k, hb, by simp [hg], by rw [← g3.1]; exact h1⟩
    · rw [if_neg a1] at g2 g3
      split at g2
      · simp at g2
      · exact .inl ⟨b1, k1, g1, g2, g3⟩

end Go.AM
