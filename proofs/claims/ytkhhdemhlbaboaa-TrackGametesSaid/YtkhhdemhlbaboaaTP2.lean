/- Small parsimony, in plain lists: the least cost of a root; the reference's way. -/
import Derived.Test.YtkhhdemhlbaboaaTP1
set_option linter.unusedVariables false
set_option linter.unusedSimpArgs false
namespace Go.AM.TP

/-- The program's search at the root. -/
def leastN (t : Tab) : Nat → Int × Int
  | 0 => (-1, 0)
  | s + 1 => if t.2.getD s 0 = 0 then leastN t s else if (leastN t s).1 < 0 ∨ t.1.getD s 0 < (leastN t s).1 then (t.1.getD s 0, t.2.getD s 0) else if t.1.getD s 0 = (leastN t s).1 then ((leastN t s).1, (leastN t s).2 + t.2.getD s 0) else leastN t s

/-- The reference's search. -/
def bestN (t : Tab) (row : List Int) : Nat → Int × Int
  | 0 => (far, 0)
  | s + 1 => if t.1.getD s 0 < far ∧ t.1.getD s 0 + row.getD s 0 < (bestN t row s).1 then (t.1.getD s 0 + row.getD s 0, t.2.getD s 0) else if t.1.getD s 0 < far ∧ t.1.getD s 0 + row.getD s 0 = (bestN t row s).1 then ((bestN t row s).1, (bestN t row s).2 + t.2.getD s 0) else bestN t row s

theorem best_below {k : Nat} {t : Tab} (f : Fine k t) (row : List Int) : ∀ s, s ≤ k → bestN t row s = belowN t row s
  | 0, _ => rfl
  | s + 1, hs => by
    have ih := best_below f row s (by omega)
    rw [bestN, belowN, ih, stepW]
    rcases f.cell s (by omega) with c | c
    · rw [if_pos c.2, if_neg (by rw [c.1]; intro h; exact absurd h.1 (by decide)), if_neg (by rw [c.1]; intro h; exact absurd h.1 (by decide))]
    · have hf : t.1.getD s 0 < far := by unfold far; omega
      rw [if_neg (show ¬ t.2.getD s 0 = 0 by omega)]
      by_cases d : t.1.getD s 0 + row.getD s 0 < (belowN t row s).1
      · rw [if_pos ⟨hf, d⟩, if_pos d]
      · rw [if_neg (fun h => d h.2), if_neg d]
        by_cases e : t.1.getD s 0 + row.getD s 0 = (belowN t row s).1
        · rw [if_pos ⟨hf, e⟩, if_pos e]
        · rw [if_neg (fun h => e h.2), if_neg e]

def zeros (k : Nat) : List Int := List.replicate k 0
theorem zeros_get (k i : Nat) : (zeros k).getD i 0 = 0 := by
  unfold zeros
  rw [List.getD_eq_getElem?_getD]
  by_cases h : i < k
  · simp [h]
  · rw [List.getElem?_eq_none (by simpa using h)]; rfl

/-- The least cost and the number of ways of a problem. -/
def answer (k : Nat) (costs : List (List Int)) (leaves : List Int) (js : List (Int × Int)) : Int × Int := belowN (((tabs k costs leaves js).getLast?).getD ([], [])) (zeros k) k

theorem least_below {k : Nat} {t : Tab} (f : Fine k t) (hw : ∀ i, i < k → t.2.getD i 0 ≠ 0) : ∀ s, s ≤ k → 1 ≤ s → leastN t s = belowN t (zeros k) s
  | 0, _, h => by omega
  | 1, hs, _ => by
    have c := f.cell 0 (by omega)
    have hne := hw 0 (by omega)
    rcases c with c | c
    · exact absurd c.2 hne
    · simp only [leastN, belowN, stepW, zeros_get, Int.add_zero]
      have h1 : ((-1 : Int) < 0 ∨ t.1.getD 0 0 < -1) := .inl (by decide)
      have h2 : t.1.getD 0 0 < far := by unfold far; omega
      simp only [hne, h1, h2, if_true, if_false]
  | s + 2, hs, _ => by
    have ih := least_below f hw (s + 1) (by omega) (by omega)
    have c := f.cell (s + 1) (by omega)
    have hne := hw (s + 1) (by omega)
    have hb := below_wt f (by decide) (by decide) (by decide) (row := zeros k) (fun i _ => by rw [zeros_get]; omega) (s + 1) (by omega)
    have hpos : 0 ≤ (belowN t (zeros k) (s + 1)).1 := by
      rcases hb with ⟨e, _⟩ | hb
      · rw [e]; decide
      · exact hb.1
    rw [leastN, belowN, ih, stepW, if_neg hne, if_neg hne]
    simp only [zeros_get, Int.add_zero]
    by_cases d : t.1.getD (s + 1) 0 < (belowN t (zeros k) (s + 1)).1
    · rw [if_pos (.inr d), if_pos d]
    · rw [if_neg (by omega), if_neg d]

theorem tabs_ne {n k : Nat} {costs : List (List Int)} {leaves : List Int} {js : List (Int × Int)} (ht : treeB n js = true) : js ≠ [] := by
  simp only [treeB, Bool.and_eq_true, decide_eq_true_eq] at ht
  intro e; subst e; simp at ht; omega

theorem root_of {n k : Nat} (hn : n ≤ 8) {costs : List (List Int)} (hc : costsB costs = true) (hk : costs.length = k) {leaves : List Int} {js : List (Int × Int)} (hl : statesB n k leaves = true) (ht : treeB n js = true) :
    ∃ t, (tabs k costs leaves js).getLast? = some t ∧ Fine k t ∧ (∀ i, i < k → t.2.getD i 0 ≠ 0) ∧ answer k costs leaves js = belowN t (zeros k) k := by
  obtain ⟨t, h1, h2, h3⟩ := root_fine hn hc hk js _ (start_at hl ht) (tabs_ne (k := k) (costs := costs) (leaves := leaves) ht)
  exact ⟨t, h1, h2, h3, by rw [answer, tabs, h1]; rfl⟩

theorem answer_bound {n k : Nat} (hn : n ≤ 8) {costs : List (List Int)} (hc : costsB costs = true) (hk : costs.length = k) {leaves : List Int} {js : List (Int × Int)} (hl : statesB n k leaves = true) (ht : treeB n js = true) :
    0 ≤ (answer k costs leaves js).1 ∧ (answer k costs leaves js).1 ≤ 2100 ∧ 1 ≤ (answer k costs leaves js).2 := by
  obtain ⟨t, _, f, _, e⟩ := root_of hn hc hk hl ht
  rw [e]
  have := below_all f (by decide) (by decide) (by decide) (row := zeros k) (fun i _ => by rw [zeros_get]; omega)
  omega

end Go.AM.TP
