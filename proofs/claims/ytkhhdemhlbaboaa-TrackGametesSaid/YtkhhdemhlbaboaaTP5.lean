/- Small parsimony, in plain lists: states that are renamed. -/
import Derived.Test.YtkhhdemhlbaboaaTP2
import Derived.Test.YtkhhdemhlbaboaaTP4
set_option linter.unusedVariables false
set_option linter.unusedSimpArgs false
namespace Go.AM.TP

/-- The lesser cost, with all its ways. -/
def comb (a b : Int × Int) : Int × Int := if a.1 < b.1 then a else if b.1 < a.1 then b else (a.1, a.2 + b.2)
theorem comb_swap (z x y : Int × Int) : comb (comb z x) y = comb (comb z y) x := by
  obtain ⟨z1, z2⟩ := z
  obtain ⟨x1, x2⟩ := x
  obtain ⟨y1, y2⟩ := y
  unfold comb
  by_cases a : z1 < x1 <;> by_cases b : x1 < z1 <;> by_cases c : z1 < y1 <;> by_cases d : y1 < z1 <;> by_cases e : x1 < y1 <;> by_cases f : y1 < x1 <;> simp [a, b, c, d, e, f] <;> omega

/-- What a state offers. -/
def elt (t : Tab) (row : List Int) (s : Nat) : Int × Int := if t.2.getD s 0 = 0 then (far, 0) else (t.1.getD s 0 + row.getD s 0, t.2.getD s 0)
theorem below_fold {k : Nat} {t : Tab} (ft : Fine k t) {row : List Int} (hr : ∀ i, i < k → 0 ≤ row.getD i 0 ∧ row.getD i 0 ≤ 100) : ∀ s, s ≤ k → belowN t row s = ((List.range s).map (elt t row)).foldl comb (far, 0)
  | 0, _ => rfl
  | s + 1, hs => by
    have ih := below_fold ft hr s (by omega)
    rw [List.range_succ, List.map_append, List.foldl_append, ← ih]
    simp only [List.map_cons, List.map_nil, List.foldl_cons, List.foldl_nil]
    have hb := below_wt ft (by decide) (by decide) (by decide) hr s (by omega)
    have hle : (belowN t row s).1 ≤ far := by
      rcases hb with ⟨e, _⟩ | hb
      · rw [e]; exact Int.le_refl _
      · unfold far; omega
    rw [belowN, stepW, elt]
    generalize belowN t row s = b at *
    obtain ⟨b1, b2⟩ := b
    simp only at hle ⊢
    by_cases hw : t.2.getD s 0 = 0
    · rw [if_pos hw, if_pos hw]
      unfold comb
      simp only
      by_cases h1 : b1 < far
      · rw [if_pos h1]
      · have : b1 = far := by omega
        rw [if_neg h1, if_neg (by omega)]; simp [this]
    · rw [if_neg hw, if_neg hw]
      unfold comb
      simp only
      by_cases h1 : t.1.getD s 0 + row.getD s 0 < b1
      · rw [if_pos h1, if_neg (by omega), if_pos h1]
      · rw [if_neg h1]
        by_cases h2 : t.1.getD s 0 + row.getD s 0 = b1
        · rw [if_pos h2, if_neg (by omega), if_neg (by omega)]
        · rw [if_neg h2, if_pos (by omega)]

/-- A turn of the states. -/
def rot (k r s : Nat) : Nat := (s + r) % k
theorem rot_lt {k r s : Nat} (hk : 1 ≤ k) : rot k r s < k := Nat.mod_lt _ (by omega)
theorem rot_inj {k r s t : Nat} (hk : 1 ≤ k ∧ k ≤ 4) (hr : r < k) (hs : s < k) (ht : t < k) (e : rot k r s = rot k r t) : s = t := by
  unfold rot at e
  have h1 : k = 1 ∨ k = 2 ∨ k = 3 ∨ k = 4 := by omega
  rcases h1 with rfl | rfl | rfl | rfl <;> omega
theorem rot_perm {k r : Nat} (hk : 1 ≤ k ∧ k ≤ 4) (hr : r < k) : ((List.range k).map (rot k r)).Perm (List.range k) := by
  have key : ∀ k < 5, ∀ r < k, ((List.range k).map (rot k r)).isPerm (List.range k) = true := by decide
  exact List.isPerm_iff.1 (key k (by omega) r hr)

theorem below_rot {k r : Nat} (hk : 1 ≤ k ∧ k ≤ 4) (hr : r < k) {t t' : Tab} (ft : Fine k t) (ft' : Fine k t') {row row' : List Int} (b : ∀ i, i < k → 0 ≤ row.getD i 0 ∧ row.getD i 0 ≤ 100) (b' : ∀ i, i < k → 0 ≤ row'.getD i 0 ∧ row'.getD i 0 ≤ 100)
    (h : ∀ s, s < k → t'.1.getD (rot k r s) 0 = t.1.getD s 0 ∧ t'.2.getD (rot k r s) 0 = t.2.getD s 0 ∧ row'.getD (rot k r s) 0 = row.getD s 0) : belowN t row k = belowN t' row' k := by
  rw [below_fold ft b k (Nat.le_refl _), below_fold ft' b' k (Nat.le_refl _)]
  have e : (List.range k).map (elt t row) = ((List.range k).map (rot k r)).map (elt t' row') := by
    rw [List.map_map]
    apply List.map_congr_left
    intro s hs
    obtain ⟨h1, h2, h3⟩ := h s (List.mem_range.1 hs)
    simp only [elt, Function.comp_apply, h1, h2, h3]
  rw [e]
  exact ((rot_perm hk hr).map _).foldl_eq' (fun x _ y _ z => comb_swap z x y) _

/-- Turned tables. -/
def Rot (k r : Nat) (t t' : Tab) : Prop := ∀ s, s < k → t'.1.getD (rot k r s) 0 = t.1.getD s 0 ∧ t'.2.getD (rot k r s) 0 = t.2.getD s 0

theorem leaf_rot {k r : Nat} (hk : 1 ≤ k ∧ k ≤ 4) (hr : r < k) {l : Nat} (hl : l < k) : Rot k r (leafT k (l : Int)) (leafT k ((rot k r l : Nat) : Int)) := by
  intro s hs
  have hlt := rot_lt (r := r) (s := s) hk.1
  simp only [leafT, getD_range_map _ _ _ _ hs, getD_range_map _ _ _ _ hlt]
  by_cases e : s = l
  · subst e; simp
  · have e1 : ¬ (s : Int) = (l : Int) := by omega
    have e2 : ¬ ((rot k r s : Nat) : Int) = ((rot k r l : Nat) : Int) := fun h => e (rot_inj hk hr hs hl (by omega))
    simp [e1, e2]

theorem join_rot {k r : Nat} (hk : 1 ≤ k ∧ k ≤ 4) (hr : r < k) {f g : Nat → Nat → Int} (bf : Bd k f) (bg : Bd k g) (hfg : ∀ s t, s < k → t < k → g (rot k r s) (rot k r t) = f s t) {a a' b b' : Tab} (fa : Fine k a) (fa' : Fine k a') (fb : Fine k b) (fb' : Fine k b') (ra : Rot k r a a') (rb : Rot k r b b') :
    Rot k r (joinT k (matF k f) a b) (joinT k (matF k g) a' b') := by
  intro s hs
  have hlt := rot_lt (r := r) (s := s) hk.1
  have rowb : ∀ (f : Nat → Nat → Int), Bd k f → ∀ s, s < k → ∀ i, i < k → 0 ≤ ((matF k f).getD s []).getD i 0 ∧ ((matF k f).getD s []).getD i 0 ≤ 100 := fun f bf s hs i hi => by rw [matF_get hs hi]; exact bf s i hs hi
  have key : ∀ {x x' : Tab}, Fine k x → Fine k x' → Rot k r x x' → belowN x ((matF k f).getD s []) k = belowN x' ((matF k g).getD (rot k r s) []) k := fun fx fx' rx =>
    below_rot hk hr fx fx' (rowb f bf s hs) (rowb g bg _ hlt) (fun t ht => ⟨(rx t ht).1, (rx t ht).2, by rw [matF_get hlt (rot_lt hk.1), matF_get hs ht]; exact hfg s t hs ht⟩)
  simp only [joinT, getD_range_map _ _ _ _ hs, getD_range_map _ _ _ _ hlt]
  rw [key fa fa' ra, key fb fb' rb]
  exact ⟨rfl, rfl⟩

theorem nodes_rot {n k r : Nat} (hn : n ≤ 8) (hk : 1 ≤ k ∧ k ≤ 4) (hr : r < k) {f g : Nat → Nat → Int} (bf : Bd k f) (bg : Bd k g) (hfg : ∀ s t, s < k → t < k → g (rot k r s) (rot k r t) = f s t) : ∀ (js : List (Int × Int)) (acc acc' : List Tab), At n k (matF k f) acc js → At n k (matF k g) acc' js → acc.length = acc'.length → (∀ i, i < acc.length → Rot k r (acc.getD i ([], [])) (acc'.getD i ([], []))) →
    ∀ i, i < (nodesT k (matF k f) acc js).length → Rot k r ((nodesT k (matF k f) acc js).getD i ([], [])) ((nodesT k (matF k g) acc' js).getD i ([], []))
  | [], acc, acc', _, _, _, h => h
  | (a, b) :: l, acc, acc', A, A', hl, h => by
    obtain ⟨a0, a1, b0, b1, fa, fb, A2⟩ := A.step hn (costsB_of hk bf) (matF_length k f)
    obtain ⟨_, _, _, _, fa', fb', A2'⟩ := A'.step hn (costsB_of hk bg) (matF_length k g)
    rw [nodesT, nodesT]
    refine nodes_rot hn hk hr bf bg hfg l _ _ A2 A2' (by simp [hl]) (fun i hi => ?_)
    rw [getD_snoc, getD_snoc, ← hl]
    by_cases h1 : i < acc.length
    · rw [if_pos h1, if_pos h1]; exact h i h1
    · have h2 : i = acc.length := by simp at hi; omega
      rw [if_neg h1, if_neg h1, if_pos h2, if_pos h2]
      exact join_rot hk hr bf bg hfg fa fa' fb fb' (h _ (by omega)) (h _ (by omega))

/-- Renaming the states changes neither the least cost nor the number of ways. -/
theorem answer_rot {n k r : Nat} (hn : n ≤ 8) (hk : 1 ≤ k ∧ k ≤ 4) (hr : r < k) {f g : Nat → Nat → Int} (bf : Bd k f) (bg : Bd k g) (hfg : ∀ s t, s < k → t < k → g (rot k r s) (rot k r t) = f s t) {js : List (Int × Int)} (ht : treeB n js = true) {l l' : List Int} (hl : statesB n k l = true) (hl' : statesB n k l' = true) (hll : ∀ i, i < n → l'.getD i 0 = ((rot k r (l.getD i 0).toNat : Nat) : Int)) :
    answer k (matF k f) l js = answer k (matF k g) l' js := by
  obtain ⟨t, t1, ft, _, e⟩ := root_of hn (costsB_of hk bf) (matF_length k f) hl ht
  obtain ⟨t', t1', ft', _, e'⟩ := root_of hn (costsB_of hk bg) (matF_length k g) hl' ht
  have hs : (l.length : Int) = n ∧ ∀ s ∈ l, 0 ≤ s ∧ s < k := by simpa [statesB, List.all_eq_true] using hl
  have hs' : (l'.length : Int) = n ∧ ∀ s ∈ l', 0 ≤ s ∧ s < k := by simpa [statesB, List.all_eq_true] using hl'
  have A := start_at (costs := matF k f) hl ht
  have A' := start_at (costs := matF k g) hl' ht
  have R := nodes_rot hn hk hr bf bg hfg js _ _ A A' (by simp; omega) (fun i hi => by
    simp only [List.length_map] at hi
    have h1 : (l.map (leafT k)).getD i ([], []) = leafT k (l.getD i 0) := by simp [List.getD, hi]
    have h2 : (l'.map (leafT k)).getD i ([], []) = leafT k (l'.getD i 0) := by simp [List.getD, show i < l'.length by omega]
    have h3 := hs.2 (l.getD i 0) (by rw [List.getD_eq_getElem?_getD, List.getElem?_eq_getElem hi]; exact List.getElem_mem hi)
    rw [h1, h2, hll i (by omega)]
    have := leaf_rot hk hr (l := (l.getD i 0).toNat) (by omega)
    rw [Int.toNat_of_nonneg h3.1] at this
    exact this)
  have hlen := nodesT_length k (matF k f) js (l.map (leafT k))
  have hlen' := nodesT_length k (matF k g) js (l'.map (leafT k))
  simp only [List.length_map] at hlen hlen'
  have hll2 : l.length = l'.length := by omega
  have last : ∀ {ts : List Tab} {x : Tab}, ts.getLast? = some x → 0 < ts.length ∧ ts.getD (ts.length - 1) ([], []) = x := by
    intro ts x hx
    rw [List.getLast?_eq_getElem?] at hx
    have hp : 0 < ts.length := by
      rcases Nat.eq_zero_or_pos ts.length with h | h
      · rw [List.getElem?_eq_none (by omega)] at hx; cases hx
      · exact h
    exact ⟨hp, by rw [List.getD_eq_getElem?_getD, hx]; rfl⟩
  obtain ⟨p1, q1⟩ := last t1
  obtain ⟨p2, q2⟩ := last t1'
  unfold tabs at p1 q1 p2 q2
  have R1 := R (l.length + js.length - 1) (by omega)
  rw [hlen] at q1
  rw [hlen', ← hll2] at q2
  rw [q1, q2] at R1
  rw [e, e']
  exact below_rot hk hr ft ft' (fun i _ => by rw [zeros_get]; omega) (fun i _ => by rw [zeros_get]; omega) (fun s hs => ⟨(R1 s hs).1, (R1 s hs).2, by rw [zeros_get, zeros_get]⟩)

/-- What was written of the turned costs. -/
def Part (k r : Nat) (f g : Nat → Nat → Int) (s t : Nat) : Prop := ∀ i j, i < k → j < k → (i < s ∨ i = s ∧ j < t) → g (rot k r i) (rot k r j) = f i j
theorem Part.start {k r : Nat} {f g : Nat → Nat → Int} : Part k r f g 0 0 := fun i j _ _ h => by omega
theorem Part.next {k r s : Nat} {f g : Nat → Nat → Int} (p : Part k r f g s k) : Part k r f g (s + 1) 0 := fun i j hi hj h => p i j hi hj (by omega)
theorem Part.step {k r s t : Nat} (hk : 1 ≤ k ∧ k ≤ 4) (hr : r < k) (hs : s < k) (ht : t < k) {f g : Nat → Nat → Int} (p : Part k r f g s t) : Part k r f (upd g (rot k r s) (rot k r t) (f s t)) s (t + 1) := by
  intro i j hi hj h
  unfold upd
  by_cases e : rot k r i = rot k r s ∧ rot k r j = rot k r t
  · rw [if_pos e, rot_inj hk hr hi hs e.1, rot_inj hk hr hj ht e.2]
  · rw [if_neg e]
    refine p i j hi hj ?_
    by_cases e1 : i = s
    · have : j ≠ t := fun e2 => e ⟨by rw [e1], by rw [e2]⟩
      omega
    · omega

end Go.AM.TP
