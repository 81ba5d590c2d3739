/- Small parsimony, in plain lists: trees, tables of costs and ways, and their bounds. -/
import Init
set_option linter.unusedVariables false
set_option linter.unusedSimpArgs false
namespace Go.AM.TP

/-! ### Sums over different indices -/
theorem sum_map_erase (f : Nat → Nat) : ∀ (l : List Nat) (a : Nat), a ∈ l → (l.map f).sum = f a + ((l.erase a).map f).sum
  | [], a, h => by simp at h
  | b :: l, a, h => by
    by_cases e : b = a
    · subst e; simp
    · have hm : a ∈ l := by rcases List.mem_cons.1 h with h | h; exact absurd h.symm e; exact h
      rw [List.erase_cons_tail (by simpa using e)]
      simp only [List.map_cons, List.sum_cons]
      rw [sum_map_erase f l a hm]; omega

theorem sum_sub (f : Nat → Nat) : ∀ (l r : List Nat), l.Nodup → (∀ x ∈ l, x ∈ r) → (l.map f).sum ≤ (r.map f).sum
  | [], r, _, _ => by simp
  | a :: l, r, hn, hs => by
    have hn' := List.nodup_cons.1 hn
    rw [sum_map_erase f r a (hs a (by simp))]
    simp only [List.map_cons, List.sum_cons]
    have := sum_sub f l (r.erase a) hn'.2 (fun x hx => (List.mem_erase_of_ne (fun e => hn'.1 (by rw [← e]; exact hx))).2 (hs x (by simp [hx])))
    omega

theorem sum_range (l : List Nat) : ((List.range l.length).map fun i => l.getD i 0).sum = l.sum := by
  congr 1
  apply List.ext_getElem?
  intro i
  rw [List.getElem?_map]
  by_cases h : i < l.length
  · rw [List.getElem?_range h, List.getElem?_eq_getElem h]
    simp [List.getD, h]
  · rw [List.getElem?_eq_none (by simpa using h), List.getElem?_eq_none (by omega)]; rfl

/-! ### Trees -/
/-- Joins from number k on, some nodes being joined already. -/
def joinsOk (n : Int) : Nat → List Int → List (Int × Int) → Bool
  | _, _, [] => true
  | k, used, (a, b) :: l => decide (0 ≤ a ∧ a < n + k ∧ a ∉ used) && decide (0 ≤ b ∧ b < n + k ∧ b ∉ used ++ [a]) && joinsOk n (k + 1) (used ++ [a, b]) l
def treeB (n : Int) (js : List (Int × Int)) : Bool := decide (2 ≤ n ∧ n ≤ 8 ∧ (js.length : Int) = n - 1) && joinsOk n 0 [] js
def statesB (n k : Int) (l : List Int) : Bool := decide ((l.length : Int) = n) && l.all fun s => decide (0 ≤ s ∧ s < k)
def rowB (k : Nat) (row : List Int) : Bool := decide (row.length = k) && row.all fun c => decide (0 ≤ c ∧ c ≤ 100)
def costsB (c : List (List Int)) : Bool := decide (1 ≤ c.length ∧ c.length ≤ 4) && c.all (rowB c.length)

/-! ### Tables -/
abbrev Tab := List Int × List Int
def far : Int := 1073741824

/-- One state more. -/
def stepW (b : Int × Int) (c w r : Int) : Int × Int := if w = 0 then b else if c + r < b.1 then (c + r, w) else if c + r = b.1 then (b.1, b.2 + w) else b
/-- The least cost of an edge and what is below it, and the number of ways. -/
def belowN (t : Tab) (row : List Int) : Nat → Int × Int
  | 0 => (far, 0)
  | s + 1 => stepW (belowN t row s) (t.1.getD s 0) (t.2.getD s 0) (row.getD s 0)

def leafT (k : Nat) (s : Int) : Tab := ((List.range k).map fun i : Nat => if (i : Int) = s then 0 else far, (List.range k).map fun i : Nat => if (i : Int) = s then 1 else 0)
def joinT (k : Nat) (costs : List (List Int)) (a b : Tab) : Tab :=
  ((List.range k).map fun s => (belowN a (costs.getD s []) k).1 + (belowN b (costs.getD s []) k).1, (List.range k).map fun s => (belowN a (costs.getD s []) k).2 * (belowN b (costs.getD s []) k).2)
def nodesT (k : Nat) (costs : List (List Int)) : List Tab → List (Int × Int) → List Tab
  | acc, [] => acc
  | acc, (a, b) :: l => nodesT k costs (acc ++ [joinT k costs (acc.getD a.toNat ([], [])) (acc.getD b.toNat ([], []))]) l
/-- All tables of a problem. -/
def tabs (k : Nat) (costs : List (List Int)) (leaves : List Int) (js : List (Int × Int)) : List Tab := nodesT k costs (leaves.map (leafT k)) js

theorem nodesT_length (k : Nat) (costs : List (List Int)) : ∀ (js : List (Int × Int)) (acc : List Tab), (nodesT k costs acc js).length = acc.length + js.length
  | [], acc => rfl
  | (a, b) :: l, acc => by rw [nodesT, nodesT_length k costs l]; simp; omega
theorem nodesT_app (k : Nat) (costs : List (List Int)) : ∀ (js r : List (Int × Int)) (acc : List Tab), nodesT k costs acc (js ++ r) = nodesT k costs (nodesT k costs acc js) r
  | [], r, acc => rfl
  | (a, b) :: l, r, acc => by rw [List.cons_append, nodesT, nodesT, nodesT_app k costs l r]

/-! ### Bounds -/
/-- A table: states that are not possible, and possible ones of cost at most M and with at most W ways. -/
structure WT (k : Nat) (t : Tab) (M W : Int) : Prop where
  len1 : t.1.length = k
  len2 : t.2.length = k
  cell : ∀ i, i < k → (t.1.getD i 0 = far ∧ t.2.getD i 0 = 0) ∨ (0 ≤ t.1.getD i 0 ∧ t.1.getD i 0 ≤ M ∧ 1 ≤ t.2.getD i 0 ∧ t.2.getD i 0 ≤ W)
  some_ : ∃ i, i < k ∧ t.2.getD i 0 ≠ 0

theorem getD_range_map {α : Type} (f : Nat → α) (k i : Nat) (d : α) (h : i < k) : ((List.range k).map f).getD i d = f i := by
  rw [List.getD_eq_getElem?_getD, List.getElem?_map, List.getElem?_range h]; rfl

theorem leaf_wt {k : Nat} {s : Int} (h0 : 0 ≤ s) (h1 : s < k) : WT k (leafT k s) 0 1 where
  len1 := by simp [leafT]
  len2 := by simp [leafT]
  cell := fun i hi => by
    simp only [leafT, getD_range_map _ _ _ _ hi]
    by_cases e : (i : Int) = s
    · simp [e]
    · simp [e]
  some_ := ⟨s.toNat, by omega, by
    simp only [leafT, getD_range_map _ _ _ _ (show s.toNat < k by omega)]
    rw [if_pos (by omega)]; decide⟩

/-- What is found among the first states. -/
theorem below_wt {k : Nat} {t : Tab} {M W : Int} (h : WT k t M W) (hM : 0 ≤ M) (hW : 0 ≤ W) (hf : M + 100 < far) {row : List Int} (hr : ∀ i, i < k → 0 ≤ row.getD i 0 ∧ row.getD i 0 ≤ 100) :
    ∀ i, i ≤ k → (belowN t row i = (far, 0) ∧ ∀ j, j < i → t.2.getD j 0 = 0) ∨ (0 ≤ (belowN t row i).1 ∧ (belowN t row i).1 ≤ M + 100 ∧ 1 ≤ (belowN t row i).2 ∧ (belowN t row i).2 ≤ i * W)
  | 0, _ => .inl ⟨rfl, fun j hj => by omega⟩
  | i + 1, hi => by
    have ih := below_wt h hM hW hf hr i (by omega)
    have hc := h.cell i (by omega)
    have hrow := hr i (by omega)
    have hmul : ((i + 1 : Nat) : Int) * W = (i : Int) * W + W := by rw [Int.natCast_add, Int.add_mul]; simp
    have hiW : 0 ≤ (i : Int) * W := Int.mul_nonneg (by omega) hW
    simp only [belowN, stepW]
    by_cases hw : t.2.getD i 0 = 0
    · rw [if_pos hw]
      rcases ih with ⟨h1, h2⟩ | h1
      · refine .inl ⟨h1, fun j hj => ?_⟩
        by_cases e : j = i
        · rw [e]; exact hw
        · exact h2 j (by omega)
      · right; rw [hmul]; omega
    · rw [if_neg hw]
      have hc' : 0 ≤ t.1.getD i 0 ∧ t.1.getD i 0 ≤ M ∧ 1 ≤ t.2.getD i 0 ∧ t.2.getD i 0 ≤ W := by
        rcases hc with hc | hc
        · exact absurd hc.2 hw
        · exact hc
      right
      rw [hmul]
      rcases ih with ⟨h1, h2⟩ | h1
      · rw [h1]
        simp only
        rw [if_pos (by omega)]
        simp only
        omega
      · split
        · simp only; omega
        · split
          · simp only; omega
          · omega

theorem below_all {k : Nat} {t : Tab} {M W : Int} (h : WT k t M W) (hM : 0 ≤ M) (hW : 0 ≤ W) (hf : M + 100 < far) {row : List Int} (hr : ∀ i, i < k → 0 ≤ row.getD i 0 ∧ row.getD i 0 ≤ 100) :
    0 ≤ (belowN t row k).1 ∧ (belowN t row k).1 ≤ M + 100 ∧ 1 ≤ (belowN t row k).2 ∧ (belowN t row k).2 ≤ k * W := by
  rcases below_wt h hM hW hf hr k (Nat.le_refl _) with ⟨_, h2⟩ | h1
  · obtain ⟨i, hi, hne⟩ := h.some_
    exact absurd (h2 i hi) hne
  · exact h1

theorem costs_row {c : List (List Int)} (h : costsB c = true) {s : Nat} (hs : s < c.length) : (c.getD s []).length = c.length ∧ ∀ i, i < c.length → 0 ≤ (c.getD s []).getD i 0 ∧ (c.getD s []).getD i 0 ≤ 100 := by
  simp only [costsB, Bool.and_eq_true, List.all_eq_true, rowB, decide_eq_true_eq] at h
  have e : c.getD s [] = c[s] := by simp [List.getD, hs]
  rw [e]
  have h1 := h.2 c[s] (List.getElem_mem hs)
  refine ⟨h1.1, fun i hi => ?_⟩
  have hi' : i < c[s].length := by omega
  have e2 : c[s].getD i 0 = c[s][i] := by simp [List.getD, hi']
  rw [e2]
  exact h1.2 _ (List.getElem_mem hi')

theorem join_wt {k : Nat} {costs : List (List Int)} (hc : costsB costs = true) (hk : costs.length = k) {a b : Tab} {MA WA MB WB : Int} (ha : WT k a MA WA) (hb : WT k b MB WB) (h1 : 0 ≤ MA) (h2 : 0 ≤ MB) (h3 : 0 ≤ WA) (h4 : 0 ≤ WB) (h5 : MA + MB + 200 < far) :
    WT k (joinT k costs a b) (MA + MB + 200) (16 * (WA * WB)) ∧ ∀ i, i < k → (joinT k costs a b).2.getD i 0 ≠ 0 := by
  have hk4 : 1 ≤ k ∧ k ≤ 4 := by
    simp only [costsB, Bool.and_eq_true, decide_eq_true_eq] at hc; omega
  have key : ∀ i, i < k → 0 ≤ (joinT k costs a b).1.getD i 0 ∧ (joinT k costs a b).1.getD i 0 ≤ MA + MB + 200 ∧ 1 ≤ (joinT k costs a b).2.getD i 0 ∧ (joinT k costs a b).2.getD i 0 ≤ 16 * (WA * WB) := by
    intro i hi
    have hr := (costs_row hc (s := i) (by omega)).2
    rw [hk] at hr
    have A := below_all ha h1 h3 (by omega) hr
    have B := below_all hb h2 h4 (by omega) hr
    simp only [joinT, getD_range_map _ _ _ _ hi]
    generalize belowN a (costs.getD i []) k = x at *
    generalize belowN b (costs.getD i []) k = y at *
    have hkA : (k : Int) * WA ≤ 4 * WA := Int.mul_le_mul_of_nonneg_right (by omega) h3
    have hkB : (k : Int) * WB ≤ 4 * WB := Int.mul_le_mul_of_nonneg_right (by omega) h4
    refine ⟨by omega, by omega, ?_, ?_⟩
    · have := Int.mul_le_mul (show 1 ≤ x.2 by omega) (show 1 ≤ y.2 by omega) (by omega) (by omega)
      simpa using this
    · have := Int.mul_le_mul (show x.2 ≤ 4 * WA by omega) (show y.2 ≤ 4 * WB by omega) (by omega) (by omega)
      have e : 4 * WA * (4 * WB) = 16 * (WA * WB) := by
        rw [Int.mul_assoc 4 WA, ← Int.mul_assoc WA 4, Int.mul_comm WA 4, Int.mul_assoc 4 WA, ← Int.mul_assoc]; rfl
      rw [e] at this
      exact this
  refine ⟨⟨by simp [joinT], by simp [joinT], fun i hi => .inr (key i hi), 0, by omega, ?_⟩, fun i hi => ?_⟩
  · have := key 0 (by omega); omega
  · have := key i hi; omega

/-- Tables and how many leaves are below them. -/
structure Inv (n k : Nat) (costs : List (List Int)) (acc : List Tab) (szs used : List Nat) : Prop where
  len : acc.length = szs.length
  nodup : used.Nodup
  lt : ∀ x ∈ used, x < szs.length
  sum : szs.sum = n + (used.map fun i => szs.getD i 0).sum
  pos : ∀ i, i < szs.length → 1 ≤ szs.getD i 0
  wt : ∀ i, i < szs.length → WT k (acc.getD i ([], [])) (200 * ((szs.getD i 0 : Int) - 1)) ((16 ^ (szs.getD i 0 - 1) : Nat) : Int)

theorem Inv.le {n k : Nat} {costs : List (List Int)} {acc : List Tab} {szs used : List Nat} (I : Inv n k costs acc szs used) {i : Nat} (hi : i < szs.length) (hu : i ∉ used) : szs.getD i 0 ≤ n := by
  have h := sum_sub (fun i => szs.getD i 0) (i :: used) (List.range szs.length) (List.nodup_cons.2 ⟨hu, I.nodup⟩) (fun x hx => by
    rcases List.mem_cons.1 hx with rfl | hx
    · simpa using hi
    · simpa using I.lt x hx)
  rw [sum_range] at h
  simp only [List.map_cons, List.sum_cons] at h
  have := I.sum
  omega

theorem Inv.le2 {n k : Nat} {costs : List (List Int)} {acc : List Tab} {szs used : List Nat} (I : Inv n k costs acc szs used) {i j : Nat} (hi : i < szs.length) (hj : j < szs.length) (hu : i ∉ used) (hv : j ∉ used) (hne : i ≠ j) : szs.getD i 0 + szs.getD j 0 ≤ n := by
  have h := sum_sub (fun i => szs.getD i 0) (i :: j :: used) (List.range szs.length) (List.nodup_cons.2 ⟨by simp [hne, hu], List.nodup_cons.2 ⟨hv, I.nodup⟩⟩) (fun x hx => by
    rcases List.mem_cons.1 hx with rfl | hx
    · simpa using hi
    · rcases List.mem_cons.1 hx with rfl | hx
      · simpa using hj
      · simpa using I.lt x hx)
  rw [sum_range] at h
  simp only [List.map_cons, List.sum_cons] at h
  have := I.sum
  omega

theorem getD_snoc {α : Type} (l : List α) (x d : α) (i : Nat) : (l ++ [x]).getD i d = if i < l.length then l.getD i d else if i = l.length then x else d := by
  simp only [List.getD_eq_getElem?_getD]
  by_cases h : i < l.length
  · rw [List.getElem?_append_left h, if_pos h]
  · rw [if_neg h, List.getElem?_append_right (by omega)]
    by_cases h2 : i = l.length
    · subst h2; simp
    · rw [if_neg h2, List.getElem?_eq_none (by simp; omega)]; rfl

theorem map_getD_snoc (szs : List Nat) (x : Nat) (used : List Nat) (h : ∀ i ∈ used, i < szs.length) : (used.map fun i => (szs ++ [x]).getD i 0) = used.map fun i => szs.getD i 0 := by
  apply List.map_congr_left
  intro i hi
  rw [getD_snoc, if_pos (h i hi)]

/-- One join. -/
theorem Inv.join {n k : Nat} (hn : n ≤ 8) {costs : List (List Int)} (hc : costsB costs = true) (hk : costs.length = k) {acc : List Tab} {szs used : List Nat} (I : Inv n k costs acc szs used) {a b : Nat} (ha : a < szs.length) (hb : b < szs.length) (hua : a ∉ used) (hub : b ∉ used) (hne : a ≠ b) :
    Inv n k costs (acc ++ [joinT k costs (acc.getD a ([], [])) (acc.getD b ([], []))]) (szs ++ [szs.getD a 0 + szs.getD b 0]) (used ++ [a, b]) := by
  have hle := I.le2 ha hb hua hub hne
  have pa := I.pos a ha
  have pb := I.pos b hb
  refine ⟨by simp [I.len], ?_, ?_, ?_, ?_, ?_⟩
  · rw [List.nodup_append]
    refine ⟨I.nodup, by simp [hne], fun x hx y hy e => ?_⟩
    subst e
    simp only [List.mem_cons, List.not_mem_nil, or_false] at hy
    rcases hy with rfl | rfl
    · exact hua hx
    · exact hub hx
  · intro x hx
    simp only [List.length_append, List.length_singleton]
    rcases List.mem_append.1 hx with hx | hx
    · have := I.lt x hx; omega
    · simp only [List.mem_cons, List.not_mem_nil, or_false] at hx
      rcases hx with rfl | rfl <;> omega
  · have := I.sum
    rw [List.map_append, List.sum_append, map_getD_snoc _ _ _ I.lt]
    simp only [List.map_cons, List.map_nil, List.sum_cons, List.sum_nil, List.sum_append, getD_snoc, ha, hb, if_true]
    omega
  · intro i hi
    rw [getD_snoc]
    by_cases h : i < szs.length
    · rw [if_pos h]; exact I.pos i h
    · rw [if_neg h, if_pos (by simp at hi; omega)]; omega
  · intro i hi
    rw [getD_snoc, getD_snoc]
    by_cases h : i < szs.length
    · rw [if_pos h, if_pos (by rw [I.len]; exact h)]; exact I.wt i h
    · have e : i = szs.length := by simp at hi; omega
      rw [if_neg h, if_pos e, if_neg (by rw [I.len]; exact h), if_pos (by rw [I.len]; exact e)]
      have W := (join_wt hc hk (I.wt a ha) (I.wt b hb) (by omega) (by omega) (Int.natCast_nonneg _) (Int.natCast_nonneg _) (by unfold far; omega)).1
      have e1 : 200 * ((szs.getD a 0 : Int) - 1) + 200 * ((szs.getD b 0 : Int) - 1) + 200 = 200 * (((szs.getD a 0 + szs.getD b 0 : Nat) : Int) - 1) := by omega
      have e2 : 16 * (((16 ^ (szs.getD a 0 - 1) : Nat) : Int) * ((16 ^ (szs.getD b 0 - 1) : Nat) : Int)) = ((16 ^ (szs.getD a 0 + szs.getD b 0 - 1) : Nat) : Int) := by
        rw [← Int.natCast_mul, show (16 : Int) = ((16 : Nat) : Int) from rfl, ← Int.natCast_mul, ← Nat.pow_add, ← Nat.pow_succ']
        congr 2; omega
      rw [e1, e2] at W
      exact W

theorem pow16 {m : Nat} (h : m ≤ 8) : ((16 ^ (m - 1) : Nat) : Int) ≤ 268435456 := by
  have : 16 ^ (m - 1) ≤ 16 ^ 7 := Nat.pow_le_pow_right (by decide) (by omega)
  have e : (16 : Nat) ^ 7 = 268435456 := by decide
  omega

/-- A table that a program may add up without overflow. -/
def Fine (k : Nat) (t : Tab) : Prop := WT k t 2000 268435456
theorem WT.mono {k : Nat} {t : Tab} {M W M' W' : Int} (h : WT k t M W) (h1 : M ≤ M') (h2 : W ≤ W') : WT k t M' W' :=
  ⟨h.len1, h.len2, fun i hi => by rcases h.cell i hi with c | c; exact .inl c; exact .inr (by omega), h.some_⟩

theorem Inv.fine {n k : Nat} (hn : n ≤ 8) {costs : List (List Int)} {acc : List Tab} {szs used : List Nat} (I : Inv n k costs acc szs used) {i : Nat} (hi : i < szs.length) (hu : i ∉ used) : Fine k (acc.getD i ([], [])) := by
  have := I.le hi hu
  exact (I.wt i hi).mono (by omega) (pow16 (by omega))

theorem leaves_inv {n k : Nat} {costs : List (List Int)} {leaves : List Int} (hl : statesB n k leaves = true) : Inv n k costs (leaves.map (leafT k)) (List.replicate n 1) [] := by
  simp only [statesB, Bool.and_eq_true, decide_eq_true_eq, List.all_eq_true] at hl
  have hlen : leaves.length = n := by omega
  have g1 : ∀ i, i < n → (List.replicate n 1).getD i 0 = 1 := fun i hi => by simp [List.getD, hi]
  refine ⟨by simp [hlen], by simp, by simp, by simp, fun i hi => ?_, fun i hi => ?_⟩
  · simp only [List.length_replicate] at hi; rw [g1 i hi]; omega
  · simp only [List.length_replicate] at hi
    rw [g1 i hi]
    have e : (leaves.map (leafT k)).getD i ([], []) = leafT k leaves[i] := by simp [List.getD, hlen, hi]
    rw [e]
    have := hl.2 _ (List.getElem_mem (show i < leaves.length by omega))
    exact leaf_wt this.1 this.2

/-- Where joins stand: tables, numbers of leaves, joined nodes. -/
structure At (n k : Nat) (costs : List (List Int)) (acc : List Tab) (js : List (Int × Int)) : Prop where
  out : ∃ (szs used : List Nat) (u : List Int) (d : Nat), Inv n k costs acc szs used ∧ szs.length = n + d ∧ u = used.map Int.ofNat ∧ joinsOk n d u js = true

theorem start_at {n k : Nat} {costs : List (List Int)} {leaves : List Int} {js : List (Int × Int)} (hl : statesB n k leaves = true) (ht : treeB n js = true) : At n k costs (leaves.map (leafT k)) js := by
  simp only [treeB, Bool.and_eq_true] at ht
  exact ⟨_, _, _, 0, leaves_inv hl, by simp, rfl, ht.2⟩

theorem At.step {n k : Nat} (hn : n ≤ 8) {costs : List (List Int)} (hc : costsB costs = true) (hk : costs.length = k) {acc : List Tab} {a b : Int} {js : List (Int × Int)} (A : At n k costs acc ((a, b) :: js)) :
    0 ≤ a ∧ a < acc.length ∧ 0 ≤ b ∧ b < acc.length ∧ Fine k (acc.getD a.toNat ([], [])) ∧ Fine k (acc.getD b.toNat ([], [])) ∧ At n k costs (acc ++ [joinT k costs (acc.getD a.toNat ([], [])) (acc.getD b.toNat ([], []))]) js := by
  obtain ⟨szs, used, u, d, I, hd, hu, hj⟩ := A.out
  simp only [joinsOk, Bool.and_eq_true, decide_eq_true_eq] at hj
  obtain ⟨⟨⟨a0, a1, a2⟩, b0, b1, b2⟩, hj⟩ := hj
  have hlen := I.len
  have ha : a.toNat < szs.length := by omega
  have hb : b.toNat < szs.length := by omega
  have hua : a.toNat ∉ used := fun h => a2 (by rw [hu]; exact List.mem_map.2 ⟨_, h, Int.toNat_of_nonneg a0⟩)
  have hub : b.toNat ∉ used := fun h => b2 (by rw [hu]; exact List.mem_append.2 (.inl (List.mem_map.2 ⟨_, h, Int.toNat_of_nonneg b0⟩)))
  have hne : a.toNat ≠ b.toNat := fun e => b2 (List.mem_append.2 (.inr (by simp; omega)))
  refine ⟨a0, by omega, b0, by omega, I.fine hn ha hua, I.fine hn hb hub, _, _, _, d + 1, I.join hn hc hk ha hb hua hub hne, by simp; omega, ?_, hj⟩
  rw [hu, List.map_append]
  simp only [List.map_cons, List.map_nil]
  congr 1
  rw [show Int.ofNat a.toNat = a from Int.toNat_of_nonneg a0, show Int.ofNat b.toNat = b from Int.toNat_of_nonneg b0]

/-- The last table of a tree. -/
theorem root_fine {n k : Nat} (hn : n ≤ 8) {costs : List (List Int)} (hc : costsB costs = true) (hk : costs.length = k) : ∀ (js : List (Int × Int)) (acc : List Tab), At n k costs acc js → js ≠ [] →
    ∃ t, (nodesT k costs acc js).getLast? = some t ∧ Fine k t ∧ ∀ i, i < k → t.2.getD i 0 ≠ 0
  | [], _, _, h => absurd rfl h
  | (a, b) :: l, acc, A, _ => by
    obtain ⟨a0, a1, b0, b1, fa, fb, A'⟩ := A.step hn hc hk
    by_cases hl : l = []
    · subst hl
      obtain ⟨szs, used, u, d, I, hd, hu, hj⟩ := A.out
      simp only [joinsOk, Bool.and_eq_true, decide_eq_true_eq] at hj
      refine ⟨_, by simp [nodesT], ?_, (join_wt hc hk fa fb (by decide) (by decide) (by decide) (by decide) (by decide)).2⟩
      obtain ⟨szs, used, u, d, I, hd, hu, hj⟩ := A.out
      simp only [joinsOk, Bool.and_eq_true, decide_eq_true_eq] at hj
      obtain ⟨⟨⟨_, _, a2⟩, _, _, b2⟩, hj⟩ := hj
      have hlen := I.len
      have ha : a.toNat < szs.length := by omega
      have hb : b.toNat < szs.length := by omega
      have hua : a.toNat ∉ used := fun h => a2 (by rw [hu]; exact List.mem_map.2 ⟨_, h, Int.toNat_of_nonneg a0⟩)
      have hub : b.toNat ∉ used := fun h => b2 (by rw [hu]; exact List.mem_append.2 (.inl (List.mem_map.2 ⟨_, h, Int.toNat_of_nonneg b0⟩)))
      have hne : a.toNat ≠ b.toNat := fun e => b2 (List.mem_append.2 (.inr (by simp; omega)))
      have J := I.join hn hc hk ha hb hua hub hne
      have hle := I.le2 ha hb hua hub hne
      have W := J.wt szs.length (by simp)
      rw [getD_snoc, getD_snoc, if_neg (by omega), if_pos (by omega), if_neg (by omega), if_pos rfl] at W
      exact W.mono (by omega) (pow16 (by omega))
    · rw [nodesT]
      exact root_fine hn hc hk l _ A' hl

end Go.AM.TP
