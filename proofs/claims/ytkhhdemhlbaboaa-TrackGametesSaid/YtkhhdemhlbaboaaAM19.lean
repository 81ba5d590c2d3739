/- The abstract machine, part 19: rows of numbers under construction; square tables that are written in place. -/
import Derived.Test.YtkhhdemhlbaboaaAM18
set_option linter.unusedVariables false
set_option linter.unusedSimpArgs false
namespace Go.AM

theorem all_ints (k : IntKind) (xs : List Int) : (xs.map (Value.int k)).all (·.oneCell') = true := by
  rw [List.all_eq_true]; intro y hy; obtain ⟨z, _, rfl⟩ := List.mem_map.1 hy; rfl

/-- A row of numbers of some kind. -/
def Nums (k : IntKind) (h : Heap) (v : Value) (xs : List Int) : Prop := Reads h v xs.length 1 (xs.map (.int k))
theorem Nums.ext {k : IntKind} {h h' : Heap} (x : Ext h h') (o : Ok h) {v : Value} {xs : List Int} (r : Nums k h v xs) : Nums k h' v xs := Reads.ext x o r
theorem Nums.len {k : IntKind} {h : Heap} {v : Value} {xs : List Int} (r : Nums k h v xs) : lenA v = some xs.length := Reads.len r
theorem Nums.small {k : IntKind} {h : Heap} {v : Value} {xs : List Int} (r : Nums k h v xs) : xs.length ≤ 4611686018427387904 := Reads.small r
theorem Nums.nil {k : IntKind} {h : Heap} : Nums k h (.slice none 0 0) [] := Reads.nil h 1
theorem Nums.row {k : IntKind} {h : Heap} {v : Value} {xs : List Int} (r : Nums k h v xs) {i : Nat} (hi : i < xs.length) : ∃ p, iaddrA 1 v (.int .i64 i) = some p ∧ loadA h 1 false p = some (.int k xs[i]) := by
  obtain ⟨p, h1, h2⟩ := Reads.elem1 r hi
  refine ⟨p, h1, ?_⟩
  rw [h2, getD_in (by simpa using hi)]; simp

/-- Own rows through a change elsewhere. -/
theorem Own.over' {h0 g g' : Heap} (k : Ok g) {v : Value} {n esz : Nat} {cs : List Value} (r : Own h0 g v n esz cs) {P : Nat → Prop} (ov : Over g g' P) (hp : ∀ i, InBlk v i → ¬ P i) (hn : n ≠ 0) : Own h0 g' v n esz cs := by
  refine ⟨r.small, r.size, r.ones, ?_⟩
  rcases r.at_ with hv | ⟨b, e, hv, hg, h1, h2⟩
  · exact .inl hv
  · have hb : InBlk v b := by rcases hv with ⟨rfl, _⟩ | ⟨rfl, _⟩ <;> exact ⟨_, _, _, _, rfl, hn⟩
    exact .inr ⟨b, e, hv, by rw [ov.get b (k.lt hg) (hp b hb)]; exact hg, h1, by rw [ov.base]; exact h2⟩

/-- Numbers that are appended to. -/
def IL (h0 h : Heap) (v : Value) (xs : List Int) : Prop := Own h0 h v xs.length 1 (xs.map (.int .i64))
theorem IL.empty (h0 h : Heap) (b : Nat) : IL h0 h (.slice (some ⟨b, 0, none⟩) 0 0) [] := Own.empty _ _ _ _
theorem IL.ints {h0 h : Heap} {v : Value} {xs : List Int} (r : IL h0 h v xs) : Ints h v xs := Own.reads r
theorem IL.fit {h0 h : Heap} {v : Value} {xs : List Int} (r : IL h0 h v xs) : Fit v := Own.fit r
theorem IL.step {h0 h h' : Heap} (x : Ext h h') (k : Ok h) {v : Value} {xs : List Int} (r : IL h0 h v xs) : IL h0 h' v xs := Own.step x k r
theorem IL.elder {h0 h1 h : Heap} (x : h0.next ≤ h1.next) {v : Value} {xs : List Int} (r : IL h1 h v xs) : IL h0 h v xs := Own.elder x r
theorem IL.push {h0 g : Heap} (x0 : Ext h0 g) (k : Ok g) {v : Value} {xs : List Int} (r : IL h0 g v xs) (hn : xs.length ≤ 1000000) (x : Int) :
    ∃ v' g', appendA (g.alloc { cells := [.int .i64 x], esz := 0 }) 1 8 v (.slice (some ⟨g.next, 0, none⟩) 1 1) = some (v', g') ∧ IL g g' v' (xs ++ [x]) ∧ Ext h0 g' ∧ Ok g' ∧ Over g g' (GBlk v) := by
  obtain ⟨v', g', e, o, x', k', ov⟩ := Own.push3 x0 k r (news := [.int .i64 x]) (bytes := 8) rfl rfl (by omega) (by omega) (by omega)
  refine ⟨v', g', e, ?_, x', k', ov⟩
  unfold IL
  simpa using o

/-- Pairs that are appended to. -/
def PL (h0 h : Heap) (v : Value) (js : List (Int × Int)) : Prop := Own h0 h v js.length 2 (js.flatMap pairCells)
theorem PL.pairs {h0 h : Heap} {v : Value} {js : List (Int × Int)} (r : PL h0 h v js) : Pairs h v js := Own.reads r
theorem PL.push {h0 g : Heap} (x0 : Ext h0 g) (k : Ok g) {v : Value} {js : List (Int × Int)} (r : PL h0 g v js) (hn : js.length ≤ 1000000) (x y : Int) :
    ∃ v' g', appendA (g.alloc { cells := [.int .i64 x, .int .i64 y], esz := 0 }) 2 16 v (.slice (some ⟨g.next, 0, none⟩) 1 1) = some (v', g') ∧ PL g g' v' (js ++ [(x, y)]) ∧ Ext h0 g' ∧ Ok g' ∧ Over g g' (GBlk v) := by
  obtain ⟨v', g', e, o, x', k', ov⟩ := Own.push3 x0 k r (news := [.int .i64 x, .int .i64 y]) (bytes := 16) rfl rfl (by omega) (by omega) (by omega)
  refine ⟨v', g', e, ?_, x', k', ov⟩
  unfold PL
  simpa [pairCells] using o

/-- A square table: rows in blocks of their own. -/
structure OM (h0 h : Heap) (v : Value) (n : Nat) (rows : Nat → List Int) : Prop where
  out : ∃ us : List Value, us.length = n ∧ Own h0 h v n 1 us ∧ (∀ i, i < n → IL h0 h (us.getD i undef) (rows i) ∧ rows i ≠ []) ∧ (∀ i j b, i < n → j < n → i ≠ j → InBlk (us.getD i undef) b → ¬ InBlk (us.getD j undef) b) ∧
    ∀ i b, i < n → InBlk (us.getD i undef) b → ¬ InBlk v b ∧ ¬ GBlk v b

theorem OM.empty (h0 h : Heap) (b : Nat) (rows : Nat → List Int) : OM h0 h (.slice (some ⟨b, 0, none⟩) 0 0) 0 rows := ⟨[], rfl, Own.empty _ _ _ _, fun i hi => by omega, fun i j b hi => by omega, fun i b hi => by omega⟩
theorem OM.step {h0 h h' : Heap} (x : Ext h h') (k : Ok h) {v : Value} {n : Nat} {rows : Nat → List Int} (r : OM h0 h v n rows) : OM h0 h' v n rows := by
  obtain ⟨us, r1, r2, r3, r4, r5⟩ := r.out
  exact ⟨us, r1, r2.step x k, fun i hi => ⟨(r3 i hi).1.step x k, (r3 i hi).2⟩, r4, r5⟩
theorem OM.elder {h0 h1 h : Heap} (x : h0.next ≤ h1.next) {v : Value} {n : Nat} {rows : Nat → List Int} (r : OM h1 h v n rows) : OM h0 h v n rows := by
  obtain ⟨us, r1, r2, r3, r4, r5⟩ := r.out
  exact ⟨us, r1, r2.elder x, fun i hi => ⟨(r3 i hi).1.elder x, (r3 i hi).2⟩, r4, r5⟩
theorem OM.fit {h0 h : Heap} {v : Value} {n : Nat} {rows : Nat → List Int} (r : OM h0 h v n rows) : Fit v := by
  obtain ⟨us, r1, r2, r3, r4, r5⟩ := r.out
  exact r2.fit
theorem OM.congr {h0 h : Heap} {v : Value} {n : Nat} {rows rows' : Nat → List Int} (e : ∀ i, i < n → rows i = rows' i) (r : OM h0 h v n rows) : OM h0 h v n rows' := by
  obtain ⟨us, r1, r2, r3, r4, r5⟩ := r.out
  exact ⟨us, r1, r2, fun i hi => by rw [← e i hi]; exact r3 i hi, r4, r5⟩
theorem OM.mat {h0 h : Heap} {v : Value} {n : Nat} {rows : Nat → List Int} (r : OM h0 h v n rows) : Mat h v ((List.range n).map rows) := by
  obtain ⟨us, r1, r2, r3, r4, r5⟩ := r.out
  refine ⟨⟨us, by simpa using r2.reads, by simpa using r1, fun i hi => ?_⟩⟩
  simp only [List.length_map, List.length_range] at hi
  have e : ((List.range n).map rows).getD i [] = rows i := by
    rw [List.getD_eq_getElem?_getD, List.getElem?_map, List.getElem?_range hi]; rfl
  rw [e]
  exact ⟨(r3 i hi).1.ints, (r3 i hi).1.fit⟩

/-- A row more. -/
theorem OM.push {h0 g g' : Heap} (k : Ok g) (x0 : Ext h0 g) (x : Ext g g') (k' : Ok g') {v u : Value} {n : Nat} {rows : Nat → List Int} (r : OM h0 g v n rows) {xs : List Int} (ru : IL g g' u xs) (hne : xs ≠ []) (hn : n ≤ 1000000) :
    ∃ v' h', appendA (g'.alloc { cells := [u], esz := 0 }) 1 24 v (.slice (some ⟨g'.next, 0, none⟩) 1 1) = some (v', h') ∧ OM h0 h' v' (n + 1) (fun i => if i = n then xs else rows i) ∧ Ext h0 h' ∧ Ok h' ∧ Over g' h' (GBlk v) := by
  obtain ⟨us, r1, r2, r3, r4, r5⟩ := r.out
  have hc := ru.fit.cell
  obtain ⟨v', h', e, o, x', kk, ov⟩ := Own.push3 (x0.trans x) k' (r2.step x k) (news := [u]) (bytes := 24) rfl (by simp [hc.1]) (by omega) (by omega) (by omega)
  have hlt : ∀ i b, i < n → InBlk (us.getD i undef) b → b < g.next := fun i b hi hb => Reads.blk k (r3 i hi).1.ints (by decide) hb
  have hu : ∀ b, InBlk u b → g.next ≤ b ∧ b < g'.next := fun b hb => ⟨Own.blk ru hb, Reads.blk k' ru.ints (by decide) hb⟩
  have hvb : ∀ b, GBlk v b → b < g.next := fun b hb => r2.gblk_lt k hb
  have hv' : ∀ b, InBlk v' b → g'.next ≤ b := fun b hb => o.blk hb
  have hv2 : ∀ b, GBlk v' b → g'.next ≤ b := fun b hb => o.gblk hb
  have nx := x.next
  have gD : ∀ i, (us ++ [u]).getD i undef = if i < n then us.getD i undef else if i = n then u else undef := by
    intro i
    simp only [List.getD_eq_getElem?_getD]
    by_cases h1 : i < n
    · rw [List.getElem?_append_left (by omega), if_pos h1]
    · rw [if_neg h1, List.getElem?_append_right (by omega)]
      by_cases h2 : i = n
      · subst h2; simp [r1]
      · rw [if_neg h2, List.getElem?_eq_none (by simp; omega)]; rfl
  refine ⟨v', h', e, ⟨us ++ [u], by simp [r1], o.elder (Nat.le_trans x0.next nx), ?_, ?_, ?_⟩, x', kk, ov⟩
  · intro i hi
    rw [gD]
    by_cases h1 : i < n
    · have h2 : ¬ i = n := by omega
      rw [if_pos h1]
      simp only [h2, if_false]
      have hne' := (r3 i h1).2
      refine ⟨Own.over' k' ((r3 i h1).1.step x k) ov (fun b hb hp => (r5 i b h1 hb).2 hp) ?_, hne'⟩
      intro hl; exact hne' (List.length_eq_zero_iff.1 hl)
    · have h2 : i = n := by omega
      rw [if_neg h1, if_pos h2]
      simp only [h2, if_true]
      refine ⟨IL.elder x0.next (Own.over' k' ru ov (fun b hb hp => ?_) ?_), hne⟩
      · have := hu b hb; have := hvb b hp; omega
      · intro hl; exact hne (List.length_eq_zero_iff.1 hl)
  · intro i j b hi hj hij
    rw [gD, gD]
    by_cases h1 : i < n
    · rw [if_pos h1]
      by_cases h2 : j < n
      · rw [if_pos h2]; exact r4 i j b h1 h2 hij
      · rw [if_neg h2, if_pos (by omega)]
        intro hb hb2; have := hlt i b h1 hb; have := hu b hb2; omega
    · rw [if_neg h1, if_pos (by omega)]
      rw [if_pos (by omega)]
      intro hb hb2; have := hlt j b (by omega) hb2; have := hu b hb; omega
  · intro i b hi
    rw [gD]
    by_cases h1 : i < n
    · rw [if_pos h1]
      intro hb
      have := hlt i b h1 hb
      exact ⟨fun h => by have := hv' b h; omega, fun h => by have := hv2 b h; omega⟩
    · rw [if_neg h1, if_pos (by omega)]
      intro hb
      have := hu b hb
      exact ⟨fun h => by have := hv' b h; omega, fun h => by have := hv2 b h; omega⟩

/-- What is at each place, and how to write there. -/
theorem OM.view {h0 h : Heap} (k : Ok h) (x0 : Ext h0 h) {v : Value} {n : Nat} {rows : Nat → List Int} (r : OM h0 h v n rows) :
    ∃ (P U : Nat → Value) (Q : Nat → Nat → Value), (∀ a : Nat, a < n → iaddrA 1 v (.int .i64 a) = some (P a)) ∧ (∀ a : Nat, a < n → loadA h 1 false (P a) = some (U a)) ∧ (∀ a d : Nat, a < n → d < (rows a).length → iaddrA 1 (U a) (.int .i64 d) = some (Q a d)) ∧
      (∀ a d : Nat, a < n → d < (rows a).length → loadA h 1 false (Q a d) = some (.int .i64 ((rows a).getD d 0))) ∧
      ∀ (a d : Nat) (y : Int), a < n → d < (rows a).length → ∃ h', storeA h 1 (Q a d) (.int .i64 y) = some (undef, h') ∧ OM h0 h' v n (fun i => if i = a then (rows a).set d y else rows i) ∧ Ext h0 h' ∧ Ok h' ∧ h'.next = h.next := by
  obtain ⟨us, r1, r2, r3, r4, r5⟩ := r.out
  have A : ∀ a, a < n → ∃ p, iaddrA 1 v (.int .i64 a) = some p ∧ loadA h 1 false p = some (us.getD a undef) := fun a ha => Reads.elem1 r2.reads ha
  have B : ∀ a d, a < n → d < (rows a).length → ∃ p, iaddrA 1 (us.getD a undef) (.int .i64 d) = some p ∧ loadA h 1 false p = some (.int .i64 ((rows a).getD d 0)) := fun a d ha hd => by
    obtain ⟨p, h1, h2⟩ := (r3 a ha).1.ints.row hd
    exact ⟨p, h1, by rw [h2, getD_in hd]⟩
  refine ⟨fun a => (iaddrA 1 v (.int .i64 a)).getD undef, fun a => us.getD a undef, fun a d => (iaddrA 1 (us.getD a undef) (.int .i64 d)).getD undef, ?_, ?_, ?_, ?_, ?_⟩
  · intro a ha; obtain ⟨p, h1, h2⟩ := A a ha; simp only [h1, Option.getD_some]
  · intro a ha; obtain ⟨p, h1, h2⟩ := A a ha; simp only [h1, Option.getD_some]; exact h2
  · intro a d ha hd; obtain ⟨p, h1, h2⟩ := B a d ha hd; simp only [h1, Option.getD_some]
  · intro a d ha hd; obtain ⟨p, h1, h2⟩ := B a d ha hd; simp only [h1, Option.getD_some]; exact h2
  · intro a d y ha hd
    obtain ⟨p, h', h1, h2, h3, h4, h5, h6⟩ := Own.set k (r3 a ha).1 hd (x := .int .i64 y) rfl rfl
    simp only [h1, Option.getD_some]
    have e : (List.map (Value.int .i64) (rows a)).set d (.int .i64 y) = ((rows a).set d y).map (.int .i64) := by rw [List.map_set]
    rw [e] at h3
    have hz : ¬ (rows a).length = 0 := fun hl => (r3 a ha).2 (List.length_eq_zero_iff.1 hl)
    refine ⟨h', h2, ⟨us, r1, ?_, ?_, r4, r5⟩, h5.ext x0 (fun i hi => Own.blk (r3 a ha).1 hi), h4, h6⟩
    · exact Own.over' k r2 h5 (fun b hb hp => (r5 a b ha hp).1 hb) (by omega)
    · intro i hi
      by_cases hia : i = a
      · subst hia
        simp only [if_true]
        refine ⟨?_, fun hl => hz ?_⟩
        · unfold IL; simpa using h3
        · have := congrArg List.length hl; simpa using this
      · simp only [hia, if_false]
        refine ⟨Own.over' k (r3 i hi).1 h5 (fun b hb hp => r4 i a b hi ha hia hb hp) ?_, (r3 i hi).2⟩
        intro hl; exact (r3 i hi).2 (List.length_eq_zero_iff.1 hl)

/-- A cut between two pieces of code. -/
theorem wp_midK {C : CallP} (hM : CallMono C) {a b : ACode} {Q : Post} {ρ0 : Nat → Value} {h : Heap} (M : (Nat → Value) → Heap → Prop) (h1 : wpC C a (seqP M Q) ρ0 h) (h2 : ∀ ρ h, M ρ h → (∀ t, t ∉ wr a → ρ t = ρ0 t) → wpC C b Q ρ h) : wpC C (.seq a b) Q ρ0 h := by
  refine wpC_mono hM a (fun e ρ1 h1 k => ?_) ρ0 h (wpC_keep hM a h1)
  cases e with
  | normal => exact h2 _ _ k.1 k.2
  | exit i => exact k.1
  | ret => exact k.1
/-- A piece of code whose outcome was shown. -/
theorem wp_doneK {C : CallP} (hM : CallMono C) {a : ACode} {Q R : Post} {ρ0 : Nat → Value} {h : Heap} (h1 : wpC C a R ρ0 h) (h2 : ∀ e ρ h, R e ρ h → (∀ t, t ∉ wr a → ρ t = ρ0 t) → Q e ρ h) : wpC C a Q ρ0 h :=
  wpC_mono hM a (fun e ρ1 h1 k => h2 e ρ1 h1 k.1 k.2) ρ0 h (wpC_keep hM a h1)

end Go.AM
