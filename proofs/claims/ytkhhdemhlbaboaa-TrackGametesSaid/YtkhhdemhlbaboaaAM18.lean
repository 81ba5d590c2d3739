/- The abstract machine, part 18: slices of things. -/
import Derived.Test.YtkhhdemhlbaboaaAM17
set_option linter.unusedVariables false
set_option linter.unusedSimpArgs false
namespace Go.AM

theorem Own.push2 {h0 h : Heap} (k : Ok h) {s : Value} {n esz bytes : Nat} {cs news : List Value} (r : Own h0 h s n esz cs) (hl : news.length = esz) (h1 : news.all (·.oneCell') = true) (hsz : esz ≠ 0) (hb : (n + 1) * bytes ≤ 70368744177664) (hn : n + 1 ≤ 4611686018427387904) :
    ∃ v' h', appendA (h.alloc { cells := news, esz := 0 }) esz bytes s (rowOf 1 1 h.next) = some (v', h') ∧ Own h h' v' (n + 1) esz (cs ++ news) ∧ Ok h' ∧ Over h h' (GBlk s) := by
  have xa := Ext.alloc h { cells := news, esz := 0 }
  have hrd : Reads (h.alloc { cells := news, esz := 0 }) (rowOf 1 1 h.next) 1 esz news := by
    refine ⟨rfl, by omega, by omega, fun _ => ⟨h.next, 0, none, 1, rfl, ?_⟩⟩
    have := read_own (h := h.alloc { cells := news, esz := 0 }) (b := h.next) (blk := { cells := news, esz := 0 }) (o := 0) (n := 1 * esz) (show (h.alloc { cells := news, esz := 0 }).base ≤ h.next from k.le) (by simp [Heap.alloc]) (by simp [hl])
    rw [this]
    simp only [List.drop_zero]
    rw [show 1 * esz = news.length by omega, List.take_length]
  obtain ⟨v', h', e, ow, k', ov⟩ := Own.append2 (k.alloc _) (r.step xa k) hrd h1 hsz hb hn (by omega)
  refine ⟨v', h', e, ow.elder (by simp [Heap.alloc]), k', ⟨ov.base, ?_, fun i hi hp => ?_⟩⟩
  · have := ov.next; simp only [Heap.alloc] at this; omega
  · rw [ov.get i (by simp only [Heap.alloc]; omega) hp, xa.get i hi]

theorem Own.gblk_lt {h0 h : Heap} (k : Ok h) {v : Value} {n esz : Nat} {cs : List Value} (r : Own h0 h v n esz cs) {i : Nat} (hi : GBlk v i) : i < h.next := by
  obtain ⟨n', e⟩ := hi
  rcases r.at_ with ⟨rfl | ⟨b, rfl⟩, _⟩ | ⟨b, e2, ⟨rfl, _⟩ | ⟨rfl, _⟩, hg, h1, _⟩
  · simp at e
  · simp at e
  · simp only [Value.slice.injEq, Option.some.injEq, Addr.mk.injEq] at e
    have := k.lt hg; omega
  · simp at e
/-- Both faces of an append of one element. -/
theorem Own.push3 {h0 h : Heap} (x0 : Ext h0 h) (k : Ok h) {s : Value} {n esz bytes : Nat} {cs news : List Value} (r : Own h0 h s n esz cs) (hl : news.length = esz) (h1 : news.all (·.oneCell') = true) (hsz : esz ≠ 0) (hb : (n + 1) * bytes ≤ 70368744177664) (hn : n + 1 ≤ 4611686018427387904) :
    ∃ v' h', appendA (h.alloc { cells := news, esz := 0 }) esz bytes s (.slice (some ⟨h.next, 0, none⟩) 1 1) = some (v', h') ∧ Own h h' v' (n + 1) esz (cs ++ news) ∧ Ext h0 h' ∧ Ok h' ∧ Over h h' (GBlk s) := by
  obtain ⟨v', h', e, ow, k', ov⟩ := Own.push2 k r hl h1 hsz hb hn
  exact ⟨v', h', e, ow, ov.ext x0 (fun i hi => r.gblk hi), k', ov⟩

/-- What an element of a slice may be. -/
structure Elem (α : Type) (esz : Nat) where
  R : Heap → List Value → α → Prop
  pos : esz ≠ 0
  len : ∀ {h u a}, R h u a → u.length = esz
  one : ∀ {h u a}, R h u a → u.all (·.oneCell') = true
  keep : ∀ {h h' u a}, R h u a → h'.base = h.base → (∀ x ∈ u, ∀ i, InBlk x i → h'.get i = h.get i) → R h' u a
  blk : ∀ {h u a}, Ok h → R h u a → ∀ x ∈ u, ∀ i, InBlk x i → i < h.next

variable {α : Type} {esz : Nat}

/-- A slice that reads as such a list. -/
def RL (E : Elem α esz) (h : Heap) (v : Value) (l : List α) : Prop := ∃ us : List (List Value), Reads h v l.length esz us.flatten ∧ us.length = l.length ∧ ∀ j, j < l.length → ∃ a, l[j]? = some a ∧ E.R h (us.getD j []) a
/-- One that is appended to. -/
def OL (E : Elem α esz) (h0 h : Heap) (v : Value) (l : List α) : Prop := ∃ (hk : Heap) (us : List (List Value)), Own hk h v l.length esz us.flatten ∧ h0.next ≤ hk.next ∧ us.length = l.length ∧ (∀ u ∈ us, ∀ x ∈ u, ∀ b, InBlk x b → b < hk.next) ∧ ∀ j, j < l.length → ∃ a, l[j]? = some a ∧ E.R h (us.getD j []) a

theorem Elem.ext (E : Elem α esz) {h h' : Heap} (x : Ext h h') (k : Ok h) {u : List Value} {a : α} (r : E.R h u a) : E.R h' u a :=
  E.keep r x.base (fun y hy i hi => x.get i (E.blk k r y hy i hi))

theorem RL.ext {E : Elem α esz} {h h' : Heap} (x : Ext h h') (k : Ok h) {v : Value} {l : List α} (r : RL E h v l) : RL E h' v l := by
  obtain ⟨us, r1, r2, r3⟩ := r
  refine ⟨us, r1.ext x k, r2, fun j hj => ?_⟩
  obtain ⟨a, h1, h2⟩ := r3 j hj
  exact ⟨a, h1, E.ext x k h2⟩
theorem RL.len {E : Elem α esz} {h : Heap} {v : Value} {l : List α} (r : RL E h v l) : lenA v = some l.length := by obtain ⟨us, r1, _⟩ := r; exact r1.len
theorem RL.small {E : Elem α esz} {h : Heap} {v : Value} {l : List α} (r : RL E h v l) : l.length ≤ 4611686018427387904 := by obtain ⟨us, r1, _⟩ := r; exact r1.small

theorem OL.nil (E : Elem α esz) (h0 h : Heap) : OL E h0 h (.slice none 0 0) [] := ⟨h0, [], Own.nil _ _ _, Nat.le_refl _, rfl, by simp, fun j hj => by simp at hj⟩
theorem OL.empty (E : Elem α esz) (h0 h : Heap) (b : Nat) : OL E h0 h (.slice (some ⟨b, 0, none⟩) 0 0) [] := ⟨h0, [], Own.empty _ _ _ _, Nat.le_refl _, rfl, by simp, fun j hj => by simp at hj⟩
theorem OL.reads {E : Elem α esz} {h0 h : Heap} {v : Value} {l : List α} (r : OL E h0 h v l) : RL E h v l := by
  obtain ⟨hk, us, r1, r2, r3, r4, r5⟩ := r
  exact ⟨us, r1.reads, r3, r5⟩
theorem OL.fit {E : Elem α esz} {h0 h : Heap} {v : Value} {l : List α} (r : OL E h0 h v l) : Fit v := by
  obtain ⟨hk, us, r1, r2, r3, r4, r5⟩ := r
  exact r1.fit
theorem OL.step {E : Elem α esz} {h0 h h' : Heap} (x : Ext h h') (k : Ok h) {v : Value} {l : List α} (r : OL E h0 h v l) : OL E h0 h' v l := by
  obtain ⟨hk, us, r1, r2, r3, r4, r5⟩ := r
  refine ⟨hk, us, r1.step x k, r2, r3, r4, fun j hj => ?_⟩
  obtain ⟨a, h1, h2⟩ := r5 j hj
  exact ⟨a, h1, E.ext x k h2⟩
theorem OL.gblk {E : Elem α esz} {h0 h : Heap} {v : Value} {l : List α} (r : OL E h0 h v l) {i : Nat} (hi : GBlk v i) : h0.next ≤ i := by
  obtain ⟨hk, us, r1, r2, r3, r4, r5⟩ := r
  exact Nat.le_trans r2 (r1.gblk hi)
theorem OL.elder {E : Elem α esz} {h0 h1 h : Heap} (x : h0.next ≤ h1.next) {v : Value} {l : List α} (r : OL E h1 h v l) : OL E h0 h v l := by
  obtain ⟨hk, us, r1, r2, r3⟩ := r
  exact ⟨hk, us, r1, Nat.le_trans x r2, r3⟩

theorem getD_append_left {β : Type} (l r : List β) (d : β) {i : Nat} (h : i < l.length) : (l ++ r).getD i d = l.getD i d := by
  simp only [List.getD_eq_getElem?_getD, List.getElem?_append_left h]

theorem OL.gblk_lt {E : Elem α esz} {h0 h : Heap} (k : Ok h) {v : Value} {l : List α} (r : OL E h0 h v l) {i : Nat} (hi : GBlk v i) : i < h.next := by
  obtain ⟨hk, us, r1, r2, r3, r4, r5⟩ := r
  obtain ⟨n', e⟩ := hi
  rcases r1.at_ with ⟨rfl | ⟨b, rfl⟩, _⟩ | ⟨b, e2, ⟨rfl, _⟩ | ⟨rfl, _⟩, hg, h1, _⟩
  · simp at e
  · simp at e
  · simp only [Value.slice.injEq, Option.some.injEq, Addr.mk.injEq] at e
    have := k.lt hg; omega
  · simp at e

theorem mem_getD {β : Type} {l : List β} {u : β} (h : u ∈ l) (d : β) : ∃ j, j < l.length ∧ l.getD j d = u := by
  obtain ⟨j, hj, e⟩ := List.mem_iff_getElem.1 h
  exact ⟨j, hj, by rw [getD_in hj, e]⟩

/-- An append of one element that was just laid down. -/
theorem OL.push {E : Elem α esz} {h0 h : Heap} (k : Ok h) (x0 : h0.next ≤ h.next) {s : Value} {l : List α} (r : OL E h0 h s l) {u : List Value} {a : α} (ha : E.R h u a) (hu : ∀ x ∈ u, ∀ i, InBlk x i → ¬ GBlk s i) {bytes : Nat} (hb : (l.length + 1) * bytes ≤ 70368744177664) (hn : l.length + 1 ≤ 4611686018427387904) :
    ∃ v' h', appendA (h.alloc { cells := u, esz := 0 }) esz bytes s (rowOf 1 1 h.next) = some (v', h') ∧ OL E h0 h' v' (l ++ [a]) ∧ (∀ h1, Ext h1 h → h1.next ≤ h0.next → Ext h1 h') ∧ Ok h' ∧ Over h h' (GBlk s) := by
  obtain ⟨hk, us, r1, r2, r3, r4, r5⟩ := r
  obtain ⟨v', h', e, ow, k', ov⟩ := Own.push2 k r1 (E.len ha) (E.one ha) E.pos hb hn
  have hsep : ∀ i, GBlk s i → hk.next ≤ i := fun i hi => r1.gblk hi
  have keepOld : ∀ {w : List Value} {c : α}, E.R h w c → (∀ x ∈ w, ∀ b, InBlk x b → b < hk.next) → E.R h' w c := by
    intro w c hw hlt
    refine E.keep hw ov.base (fun x hx i hi => ov.get i (E.blk k hw x hx i hi) (fun hp => ?_))
    have := hsep i hp
    have := hlt x hx i hi
    omega
  have hnew : E.R h' u a := E.keep ha ov.base (fun x hx i hi => ov.get i (E.blk k ha x hx i hi) (hu x hx i hi))
  refine ⟨v', h', e, ⟨h, us ++ [u], by simpa using ow, x0, by simp [r3], ?_, ?_⟩, fun h1 x1 hle => ov.ext x1 (fun i hi => Nat.le_trans hle (Nat.le_trans r2 (hsep i hi))), k', ov⟩
  · intro w hw x hx b hb
    rcases List.mem_append.1 hw with hw | hw
    · obtain ⟨j, hj, rfl⟩ := mem_getD hw []
      obtain ⟨c, _, hc⟩ := r5 j (by omega)
      exact E.blk k hc x hx b hb
    · simp only [List.mem_singleton] at hw; subst hw
      exact E.blk k ha x hx b hb
  · intro j hj
    simp only [List.length_append, List.length_singleton] at hj
    by_cases hlt : j < l.length
    · obtain ⟨c, h1, h2⟩ := r5 j hlt
      refine ⟨c, by rw [List.getElem?_append_left hlt]; exact h1, ?_⟩
      rw [getD_append_left _ _ _ (by omega)]
      refine keepOld h2 (r4 _ ?_)
      rw [getD_in (by omega)]; exact List.getElem_mem _
    · have hj : j = l.length := by omega
      subst hj
      refine ⟨a, by simp, ?_⟩
      have : (us ++ [u]).getD l.length [] = u := by
        simp only [List.getD_eq_getElem?_getD, ← r3]; simp
      rw [this]; exact hnew

/-- What else is read stays. -/
theorem RL.over {E : Elem α esz} {h h' : Heap} {P : Nat → Prop} (k : Ok h) (ov : Over h h' P) {v : Value} {l : List α} (r : RL E h v l) (hv : ∀ i, InBlk v i → ¬ P i) (hu : ∀ us : List (List Value), Reads h v l.length esz us.flatten → us.length = l.length → (∀ j, j < l.length → ∃ a, l[j]? = some a ∧ E.R h (us.getD j []) a) → ∀ u ∈ us, ∀ x ∈ u, ∀ i, InBlk x i → ¬ P i) : RL E h' v l := by
  obtain ⟨us, r1, r2, r3⟩ := r
  refine ⟨us, r1.keep ov.base (fun i hi => ov.get i (r1.blk k E.pos hi) (hv i hi)), r2, fun j hj => ?_⟩
  obtain ⟨a, h1, h2⟩ := r3 j hj
  refine ⟨a, h1, E.keep h2 ov.base (fun x hx i hi => ov.get i (E.blk k h2 x hx i hi) (hu us r1 r2 r3 (us.getD j []) ?_ x hx i hi))⟩
  rw [getD_in (by omega)]; exact List.getElem_mem _

theorem flatten_drop : ∀ (us : List (List Value)) (hl : ∀ u ∈ us, u.length = esz) (i : Nat) (hi : i < us.length), ((us.flatten).drop (i * esz)).take esz = us[i]
  | [], _, i, hi => by simp at hi
  | u :: us, hl, 0, hi => by
    simp only [List.flatten_cons, Nat.zero_mul, List.drop_zero, List.getElem_cons_zero]
    rw [← hl u (by simp), List.take_left]
  | u :: us, hl, i + 1, hi => by
    have e : (i + 1) * esz = u.length + i * esz := by rw [hl u (by simp), Nat.succ_mul]; omega
    rw [List.flatten_cons, e, ← List.drop_drop, List.drop_left]
    exact flatten_drop us (fun w hw => hl w (by simp [hw])) i (by simpa using hi)

/-- An element: its address, its cells. -/
theorem RL.elem {E : Elem α esz} {h : Heap} {v : Value} {l : List α} (r : RL E h v l) {i : Nat} (hi : i < l.length) :
    ∃ b o u, iaddrA esz v (.int .i64 i) = some (.pointer (some ⟨b, o, none⟩)) ∧ rdA h (.pointer (some ⟨b, o, none⟩)) esz = some u ∧ loadA h esz true (.pointer (some ⟨b, o, none⟩)) = some (.agg u.toArray) ∧ E.R h u l[i] := by
  obtain ⟨us, r1, r2, r3⟩ := r
  obtain ⟨b, o, m, cap, rfl, hr⟩ := r1.elem hi
  have hul : ∀ u ∈ us, u.length = esz := fun u hu => by
    obtain ⟨j, hj, rfl⟩ := mem_getD hu []
    obtain ⟨a, _, h2⟩ := r3 j (by omega)
    exact E.len h2
  rw [flatten_drop us hul i (by omega)] at hr
  obtain ⟨a, h1, h2⟩ := r3 i hi
  rw [List.getElem?_eq_getElem hi, Option.some.injEq] at h1
  subst h1
  rw [getD_in (by omega)] at h2
  exact ⟨b, o + i * esz, us[i], by simp [iaddrA, hi], by simp [rdA, hr], by simp [loadA, hr, whole], h2⟩
/-- An element of one cell. -/
theorem RL.elem1 {E : Elem α 1} {h : Heap} {v : Value} {l : List α} (r : RL E h v l) {i : Nat} (hi : i < l.length) :
    ∃ b o x, iaddrA 1 v (.int .i64 i) = some (.pointer (some ⟨b, o, none⟩)) ∧ loadA h 1 false (.pointer (some ⟨b, o, none⟩)) = some x ∧ E.R h [x] l[i] := by
  obtain ⟨b, o, u, h1, h2, _, h3⟩ := r.elem hi
  have hl := E.len h3
  match u, hl with
  | [x], _ => exact ⟨b, o, x, h1, loadA_one h2, h3⟩

/-! ### Kinds of elements -/
def eInts : Elem (List Int) 1 where
  R := fun h u xs => ∃ v, u = [v] ∧ Ints h v xs ∧ Fit v ∧ v.oneCell' = true ∧ v.cells.toList = [v]
  pos := by decide
  len := fun ⟨v, e, _⟩ => by rw [e]; rfl
  one := fun ⟨v, e, _, _, h, _⟩ => by rw [e]; simp [h]
  keep := fun ⟨v, e, h1, h2⟩ hb hg => ⟨v, e, Reads.keep h1 hb (fun i hi => hg v (by rw [e]; simp) i hi), h2⟩
  blk := fun k ⟨v, e, h1, h2⟩ x hx i hi => by
    rw [e] at hx; simp only [List.mem_singleton] at hx; subst hx
    exact Reads.blk k h1 (by decide) hi
/-- A pair of slices. -/
def eTwo : Elem (List Int × List Int) 2 where
  R := fun h u t => ∃ v w, u = [v, w] ∧ (Ints h v t.1 ∧ Fit v ∧ v.oneCell' = true ∧ v.cells.toList = [v]) ∧ Ints h w t.2 ∧ Fit w ∧ w.oneCell' = true ∧ w.cells.toList = [w]
  pos := by decide
  len := fun ⟨v, w, e, _⟩ => by rw [e]; rfl
  one := fun ⟨v, w, e, ⟨_, _, h, _⟩, _, _, h', _⟩ => by rw [e]; simp [h, h']
  keep := fun ⟨v, w, e, ⟨h1, h2⟩, h3, h4⟩ hb hg => ⟨v, w, e, ⟨Reads.keep h1 hb (fun i hi => hg v (by rw [e]; simp) i hi), h2⟩, Reads.keep h3 hb (fun i hi => hg w (by rw [e]; simp) i hi), h4⟩
  blk := fun k ⟨v, w, e, ⟨h1, h2⟩, h3, h4⟩ x hx i hi => by
    rw [e] at hx; simp only [List.mem_cons, List.not_mem_nil, or_false] at hx
    rcases hx with rfl | rfl
    · exact Reads.blk k h1 (by decide) hi
    · exact Reads.blk k h3 (by decide) hi

theorem Fit.cell {v : Value} (f : Fit v) : v.oneCell' = true ∧ v.cells.toList = [v] := by
  unfold Fit at f
  split at f
  · exact ⟨rfl, rfl⟩
  · exact ⟨rfl, rfl⟩
  · exact ⟨rfl, rfl⟩
  · exact f.elim
theorem eInts_mk {h : Heap} {v : Value} {xs : List Int} (r : Ints h v xs) (f : Fit v) : eInts.R h [v] xs := ⟨v, rfl, r, f, f.cell⟩
theorem eTwo_mk {h : Heap} {v w : Value} {xs ys : List Int} (r : Ints h v xs) (f : Fit v) (r2 : Ints h w ys) (f2 : Fit w) : eTwo.R h [v, w] (xs, ys) := ⟨v, w, rfl, ⟨r, f, f.cell⟩, r2, f2, f2.cell⟩

theorem flatten_one {β : Type} : ∀ (us : List (List β)) (hl : ∀ u ∈ us, u.length = 1) (d : β) (i : Nat), us.flatten.getD i d = (us.getD i [d]).headD d ∧ us.flatten.length = us.length
  | [], _, d, i => by simp
  | u :: us, hl, d, i => by
    have hu := hl u (by simp)
    match u, hu with
    | [x], _ =>
      have ih := fun j => flatten_one us (fun w hw => hl w (by simp [hw])) d j
      cases i with
      | zero => exact ⟨by simp, by simp [(ih 0).2]⟩
      | succ i => exact ⟨by simpa using (ih i).1, by simp [(ih i).2]⟩

theorem RL.mat {h : Heap} {v : Value} {rows : List (List Int)} (r : RL eInts h v rows) : Mat h v rows := by
  obtain ⟨us, r1, r2, r3⟩ := r
  have hul : ∀ u ∈ us, u.length = 1 := fun u hu => by
    obtain ⟨j, hj, rfl⟩ := mem_getD hu []
    obtain ⟨a, _, h2⟩ := r3 j (by omega)
    exact eInts.len h2
  refine ⟨⟨us.flatten, r1, by rw [(flatten_one us hul undef 0).2, r2], fun i hi => ?_⟩⟩
  obtain ⟨a, h1, x, h2, h3, h4, _⟩ := r3 i hi
  rw [(flatten_one us hul undef i).1]
  rw [getD_in (by omega)] at h2
  have e1 : us.getD i [undef] = [x] := by rw [getD_in (by omega)]; exact h2
  have e2 : rows.getD i [] = a := by rw [getD_in hi]; rw [List.getElem?_eq_getElem hi] at h1; simpa using h1
  rw [e1, e2]
  exact ⟨h3, h4⟩

/-! ### Rows that are written in place -/
/-- A row whose cells were just made. -/
theorem Own.intsNew {h0 h : Heap} (x0 : Ext h0 h) (k : Ok h) {n : Nat} (xs : List Int) (hn : n ≤ 4611686018427387904) (hl : xs.length = n) : Own h0 (h.alloc { cells := xs.map (.int .i64), esz := 0 }) (.slice (some ⟨h.next, 0, none⟩) n n) n 1 (xs.map (.int .i64)) :=
  Own.new x0 k hn (by simp [hl]) (by rw [List.all_eq_true]; intro x hx; obtain ⟨y, _, rfl⟩ := List.mem_map.1 hx; rfl)
theorem Own.ints {h0 h : Heap} {v : Value} {xs : List Int} {n : Nat} (r : Own h0 h v n 1 (xs.map (.int .i64))) : Ints h v xs ∧ n = xs.length := by
  have hn : n = xs.length := by have := r.size; simp at this; omega
  subst hn
  exact ⟨r.reads, rfl⟩

/-- A store of a number into such a row. -/
theorem Own.set {h0 h : Heap} (k : Ok h) {v : Value} {n : Nat} {cs : List Value} (r : Own h0 h v n 1 cs) {i : Nat} (hi : i < n) {x : Value} (hx : x.cells.toList = [x]) (h1 : x.oneCell' = true) :
    ∃ p h', iaddrA 1 v (.int .i64 i) = some p ∧ storeA h 1 p x = some (undef, h') ∧ Own h0 h' v n 1 (cs.set i x) ∧ Ok h' ∧ Over h h' (InBlk v) ∧ h'.next = h.next := by
  rcases r.at_ with ⟨_, rfl⟩ | ⟨b, e, hv, hg, h2, h3⟩
  · omega
  · have hp : iaddrA 1 v (.int .i64 i) = some (.pointer (some ⟨b, i, none⟩)) := by
      rcases hv with ⟨rfl, _⟩ | ⟨rfl, _⟩ <;> simp [iaddrA, hi]
    have hlen : i < cs.length := by rw [r.size]; omega
    refine ⟨_, h.put b { cells := cs.set i x, esz := e }, hp, ?_, ⟨r.small, by simp [r.size], ?_, .inr ⟨b, e, hv, by simp [Heap.put], h2, h3⟩⟩, k.put (k.lt hg) _, ⟨rfl, Nat.le_refl _, fun j hj hne => ?_⟩, rfl⟩
    · rw [store1 h3 hx h1, hg]; simp [hlen]
    · rw [List.all_eq_true]
      intro y hy
      rcases List.mem_or_eq_of_mem_set hy with hy | rfl
      · exact List.all_eq_true.1 r.ones y hy
      · exact h1
    · simp only [Heap.put]
      rw [if_neg]
      intro ej
      refine hne ?_
      subst ej
      rcases hv with ⟨rfl, _⟩ | ⟨rfl, _⟩
      · exact ⟨_, _, _, _, rfl, by omega⟩
      · exact ⟨_, _, _, _, rfl, by omega⟩

end Go.AM
