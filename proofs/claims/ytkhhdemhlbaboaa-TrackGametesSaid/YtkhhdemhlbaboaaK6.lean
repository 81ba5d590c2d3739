/- Track: the tables of all nodes, walked. -/
import Derived.Test.YtkhhdemhlbaboaaAMS
import Derived.Test.YtkhhdemhlbaboaaK5
set_option linter.unusedVariables false
set_option linter.unusedSimpArgs false
set_option maxRecDepth 20000
namespace Go.AM.K
open Go.AM Go.AM.Fn Go.AM.TP
attribute [local congr] ite_cond

/-- Two rows that are written side by side. -/
structure Two (hA g : Heap) (vc vw : Value) (n : Nat) (cs ws : List Int) : Prop where
  out : ∃ hB : Heap, Own hA g vc n 1 (cs.map (.int .i64)) ∧ Own hB g vw n 1 (ws.map (.int .i64)) ∧ hA.next ≤ hB.next ∧ ∀ i, InBlk vc i → i < hB.next

theorem Two.step {hA g g' : Heap} {vc vw : Value} {n : Nat} {cs ws : List Int} (x : Ext g g') (k : Ok g) (t : Two hA g vc vw n cs ws) : Two hA g' vc vw n cs ws := by
  obtain ⟨hB, a, b, c, d⟩ := t.out
  exact ⟨hB, a.step x k, b.step x k, c, d⟩
theorem Two.lt {hA g : Heap} {vc vw : Value} {n : Nat} {cs ws : List Int} (k : Ok g) (t : Two hA g vc vw n cs ws) {i : Nat} (hi : InBlk vc i ∨ InBlk vw i) : i < g.next := by
  obtain ⟨hB, a, b, c, d⟩ := t.out
  rcases hi with hi | hi
  · exact a.reads.blk k (by decide) hi
  · exact b.reads.blk k (by decide) hi
theorem Two.ge {hA g : Heap} {vc vw : Value} {n : Nat} {cs ws : List Int} (t : Two hA g vc vw n cs ws) {i : Nat} (hi : InBlk vc i ∨ InBlk vw i) : hA.next ≤ i := by
  obtain ⟨hB, a, b, c, d⟩ := t.out
  rcases hi with hi | hi
  · exact a.blk hi
  · exact Nat.le_trans c (b.blk hi)

theorem Two.set {hA g : Heap} {vc vw : Value} {n : Nat} {cs ws : List Int} (k : Ok g) (t : Two hA g vc vw n cs ws) {i : Nat} (hi : i < n) (x y : Int) :
    ∃ pa pb g1 g2, iaddrA 1 vc (.int .i64 i) = some pa ∧ iaddrA 1 vw (.int .i64 i) = some pb ∧ storeA g 1 pa (.int .i64 x) = some (.tuple #[], g1) ∧ storeA g1 1 pb (.int .i64 y) = some (.tuple #[], g2) ∧
      Two hA g2 vc vw n (cs.set i x) (ws.set i y) ∧ Ok g2 ∧ (∀ h1, Ext h1 g → h1.next ≤ hA.next → Ext h1 g2) ∧ g1.base = g.base ∧ g2.base = g.base ∧ g2.next = g.next ∧ (∀ z, z < g.next → ¬ InBlk vc z → ¬ InBlk vw z → g1.get z = g.get z ∧ g2.get z = g.get z) := by
  obtain ⟨hB, a, b, c, d⟩ := t.out
  obtain ⟨pa, g1, e1, s1, a1, k1, o1, n1⟩ := a.set k hi (x := .int .i64 x) rfl rfl
  have hb1 : Own hB g1 vw n 1 (ws.map (.int .i64)) := by
    refine ⟨b.small, b.size, b.ones, ?_⟩
    rcases b.at_ with hv | ⟨bb, e, hv, hg, h1, h2⟩
    · exact .inl hv
    · refine .inr ⟨bb, e, hv, ?_, h1, by rw [o1.base]; exact h2⟩
      rw [o1.get bb (k.lt hg) (fun hp => by have := d bb hp; omega)]; exact hg
  obtain ⟨pb, g2, e2, s2, b2, k2, o2, n2⟩ := hb1.set k1 hi (x := .int .i64 y) rfl rfl
  have sep : ∀ z, InBlk vw z → ¬ InBlk vc z := fun z hz hp => by have := d z hp; have := b.blk hz; omega
  have a2 : Own hA g2 vc n 1 ((cs.map (.int .i64)).set i (.int .i64 x)) := by
    refine ⟨a1.small, a1.size, a1.ones, ?_⟩
    rcases a1.at_ with hv | ⟨bb, e, hv, hg, h1, h2⟩
    · exact .inl hv
    · refine .inr ⟨bb, e, hv, ?_, h1, by rw [o2.base]; exact h2⟩
      rw [o2.get bb (k1.lt hg) (fun hp => sep bb hp ?_)]
      · exact hg
      · rcases hv with ⟨rfl, _⟩ | ⟨rfl, _⟩
        · exact ⟨_, _, _, _, rfl, by omega⟩
        · exact ⟨_, _, _, _, rfl, by omega⟩
  refine ⟨pa, pb, g1, g2, e1, e2, s1, s2, ⟨hB, ?_, ?_, c, d⟩, k2, ?_, o1.base, o2.base.trans o1.base, n2.trans n1, ?_⟩
  · rw [List.map_set]; exact a2
  · rw [List.map_set]; exact b2
  · intro h1 x1 hle
    have y1 : Ext h1 g1 := o1.ext x1 (fun z hz => Nat.le_trans hle (a.blk hz))
    exact o2.ext y1 (fun z hz => Nat.le_trans (Nat.le_trans hle c) (b.blk hz))
  · intro z hz hc hw
    have h1 := o1.get z hz hc
    exact ⟨h1, by rw [o2.get z (by omega) hw, h1]⟩

theorem Two.reads {hA g : Heap} {vc vw : Value} {n : Nat} {cs ws : List Int} (t : Two hA g vc vw n cs ws) : Ints g vc cs ∧ Ints g vw ws ∧ Fit vc ∧ Fit vw ∧ cs.length = n ∧ ws.length = n := by
  obtain ⟨hB, a, b, c, d⟩ := t.out
  exact ⟨a.ints.1, b.ints.1, a.fit, b.fit, a.ints.2.symm, b.ints.2.symm⟩

theorem made_ints (n : Nat) (x : Int) : made [.int .i64 x] n = (List.replicate n x).map (.int .i64) := by
  unfold made
  rw [List.map_replicate]
  apply List.ext_getElem?
  intro i
  rw [List.getElem?_map]
  by_cases h : i < n
  · rw [List.getElem?_range h]; simp [Nat.mod_one, h]
  · rw [List.getElem?_eq_none (by simpa using h), List.getElem?_eq_none (by simpa using h)]; rfl

/-- The making of a table: a row of the far cost, a row of zeros. -/
theorem two_new {h g : Heap} (kg : Ok g) (x : Ext h g) {vc : Value} {k : Nat} (hk : k ≤ 60000) (own : Own h g vc k 1 ((List.replicate k far).map (.int .i64))) :
    Two h (((g.alloc { cells := (List.replicate k 0).map (.int .i64), esz := 0 }).alloc { cells := [.slice none 0 0, .slice none 0 0], esz := 0 }).put (g.next + 1) { cells := [vc, .slice (some ⟨g.next, 0, none⟩) k k], esz := 0 }) vc (.slice (some ⟨g.next, 0, none⟩) k k) k (List.replicate k far) (List.replicate k 0) := by
  have x1 : Ext g (((g.alloc { cells := (List.replicate k 0).map (.int .i64), esz := 0 }).alloc { cells := [.slice none 0 0, .slice none 0 0], esz := 0 }).put (g.next + 1) { cells := [vc, .slice (some ⟨g.next, 0, none⟩) k k], esz := 0 }) := ((Ext.alloc _ _).alloc' _).put (by omega) _
  refine ⟨g, own.step x1 kg, ⟨by omega, by simp, ?_, .inr ⟨g.next, 0, .inr ⟨rfl, rfl⟩, ?_, Nat.le_refl _, ?_⟩⟩, x.next, fun i hi => own.reads.blk kg (by decide) hi⟩
  · rw [List.all_eq_true]; intro y hy; obtain ⟨z, _, rfl⟩ := List.mem_map.1 hy; rfl
  · simp [Heap.alloc, Heap.put]
  · exact kg.le

theorem set_leaf (k : Nat) {s : Nat} (hs : s < k) : (List.replicate k far).set s 0 = (leafT k s).1 ∧ (List.replicate k (0 : Int)).set s 1 = (leafT k s).2 := by
  constructor <;>
  · apply List.ext_getElem?
    intro i
    simp only [leafT]
    rw [List.getElem?_set, List.getElem?_map]
    by_cases hi : i < k
    · rw [List.getElem?_range hi]
      by_cases e : s = i
      · subst e; simp [hi]
      · have : ¬ (i : Int) = (s : Int) := by omega
        simp [e, hi, this]
    · rw [List.getElem?_eq_none (l := List.range k) (by simpa using hi)]
      by_cases e : s = i
      · omega
      · simp [e]; omega

/-- A part of the table of a join. -/
def part (k : Nat) (J : List Int) (d : Int) (s : Nat) : List Int := (List.range k).map fun i => if i < s then J.getD i 0 else d
theorem part_zero (k : Nat) (J : List Int) (d : Int) : part k J d 0 = List.replicate k d := by
  apply List.ext_getElem?
  intro i
  unfold part
  rw [List.getElem?_map]
  by_cases hi : i < k
  · rw [List.getElem?_range hi]; simp [hi]
  · rw [List.getElem?_eq_none (by simpa using hi), List.getElem?_eq_none (by simpa using hi)]; rfl
theorem part_set (k : Nat) (J : List Int) (d : Int) {s : Nat} (hs : s < k) : (part k J d s).set s (J.getD s 0) = part k J d (s + 1) := by
  apply List.ext_getElem?
  intro i
  unfold part
  rw [List.getElem?_set, List.getElem?_map, List.getElem?_map]
  by_cases hi : i < k
  · rw [List.getElem?_range hi]
    by_cases e : s = i
    · subst e; simp [hi]
    · have : (i < s + 1) = (i < s) := by apply propext; omega
      simp [e, this]
  · rw [List.getElem?_eq_none (l := List.range k) (by simpa using hi)]
    by_cases e : s = i
    · omega
    · simp [e]
theorem part_all (k : Nat) (J : List Int) (d : Int) (hJ : J.length = k) : part k J d k = J := by
  apply List.ext_getElem?
  intro i
  unfold part
  rw [List.getElem?_map]
  by_cases hi : i < k
  · rw [List.getElem?_range hi]; simp [hi, List.getD, hJ]
  · rw [List.getElem?_eq_none (by simpa using hi), List.getElem?_eq_none (by omega)]; rfl

end Go.AM.K
