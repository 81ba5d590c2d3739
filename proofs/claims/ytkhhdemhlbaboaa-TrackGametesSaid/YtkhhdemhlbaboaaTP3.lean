/- Small parsimony, in plain lists: how a law derives a tree. -/
import Derived.Test.YtkhhdemhlbaboaaTP1
set_option linter.unusedVariables false
set_option linter.unusedSimpArgs false
namespace Go.AM.TP

/-- The joined nodes. -/
def flat (js : List (Int × Int)) : List Int := js.flatMap fun p => [p.1, p.2]

theorem joinsOk_snoc (n : Int) (a b : Int) : ∀ (js : List (Int × Int)) (k : Nat) (used : List Int), joinsOk n k used (js ++ [(a, b)]) = (joinsOk n k used js && (decide (0 ≤ a ∧ a < n + (k + js.length : Nat) ∧ a ∉ used ++ flat js) && decide (0 ≤ b ∧ b < n + (k + js.length : Nat) ∧ b ∉ used ++ flat js ++ [a])))
  | [], k, used => by simp [joinsOk, flat]
  | (c, d) :: l, k, used => by
    have e1 : k + 1 + l.length = k + (l.length + 1) := by omega
    have e2 : used ++ [c, d] ++ flat l = used ++ flat ((c, d) :: l) := by simp [flat]
    rw [List.cons_append, joinsOk, joinsOk_snoc n a b l (k + 1) (used ++ [c, d]), joinsOk, e2, List.length_cons, e1]
    simp only [Bool.and_assoc]

/-- Where the law stands: the joins so far and the roots that remain. -/
structure MI (n : Nat) (js : List (Int × Int)) (roots : List Int) : Prop where
  ok : joinsOk n 0 [] js = true
  nodup : roots.Nodup
  root : ∀ x ∈ roots, 0 ≤ x ∧ x < ((n + js.length : Nat) : Int) ∧ x ∉ flat js
  low : ∀ x ∈ flat js, x < ((n + js.length : Nat) : Int)
  size : roots.length + js.length = n

/-- The numbers from 0 on. -/
def upto (n : Nat) : List Int := (List.range n).map Int.ofNat
theorem upto_succ (n : Nat) : upto (n + 1) = upto n ++ [(n : Int)] := by simp [upto, List.range_succ]
theorem MI.start (n : Nat) : MI n [] (upto n) := by
  refine ⟨rfl, ?_, ?_, by simp [flat], by simp [upto]⟩
  · unfold upto
    refine List.Pairwise.map _ (fun a b h => ?_) List.nodup_range
    intro e; exact h (Int.ofNat.inj e)
  · intro x hx
    obtain ⟨i, hi, rfl⟩ := List.mem_map.1 hx
    have := List.mem_range.1 hi
    refine ⟨Int.natCast_nonneg _, ?_, by simp [flat]⟩
    simp only [List.length_nil, Nat.add_zero]
    show (i : Int) < n
    omega

/-- A list without two places, taken from the front. -/
def restN (l : List Int) (a c : Nat) : Nat → List Int
  | 0 => []
  | m + 1 => if m ≠ a ∧ m ≠ c then restN l a c m ++ [l.getD m 0] else restN l a c m

theorem restN_mem (l : List Int) (a c : Nat) : ∀ (m : Nat) (x : Int), x ∈ restN l a c m → ∃ i, i < m ∧ i ≠ a ∧ i ≠ c ∧ x = l.getD i 0
  | 0, x, h => by simp [restN] at h
  | m + 1, x, h => by
    rw [restN] at h
    split at h
    · rename_i hm
      rcases List.mem_append.1 h with h | h
      · obtain ⟨i, h1, h2⟩ := restN_mem l a c m x h
        exact ⟨i, by omega, h2⟩
      · exact ⟨m, by omega, hm.1, hm.2, by simpa using h⟩
    · obtain ⟨i, h1, h2⟩ := restN_mem l a c m x h
      exact ⟨i, by omega, h2⟩

theorem getD_inj {l : List Int} (hn : l.Nodup) {i j : Nat} (hi : i < l.length) (hj : j < l.length) (e : l.getD i 0 = l.getD j 0) : i = j := by
  simp only [List.getD_eq_getElem?_getD, List.getElem?_eq_getElem hi, List.getElem?_eq_getElem hj, Option.getD_some] at e
  exact (List.getElem_inj hn).1 e

theorem restN_nodup {l : List Int} (hn : l.Nodup) (a c : Nat) : ∀ (m : Nat), m ≤ l.length → (restN l a c m).Nodup
  | 0, _ => by simp [restN]
  | m + 1, hm => by
    rw [restN]
    split
    · rw [List.nodup_append]
      refine ⟨restN_nodup hn a c m (by omega), by simp, fun x hx y hy e => ?_⟩
      obtain ⟨i, h1, _, _, h2⟩ := restN_mem l a c m x hx
      simp only [List.mem_singleton] at hy
      rw [e, hy] at h2
      have := getD_inj hn (by omega) (by omega) h2
      omega
    · exact restN_nodup hn a c m (by omega)

theorem restN_length (l : List Int) {a c : Nat} (hne : a ≠ c) : ∀ (m : Nat), (restN l a c m).length + (if a < m then 1 else 0) + (if c < m then 1 else 0) = m
  | 0 => by simp [restN]
  | m + 1 => by
    have ih := restN_length l hne m
    rw [restN]
    by_cases h1 : m = a
    · subst h1
      have : ¬ (m ≠ m ∧ m ≠ c) := fun h => h.1 rfl
      rw [if_neg this]
      simp only [Nat.lt_irrefl, if_false, Nat.lt_succ_self, if_true] at ih ⊢
      by_cases h2 : c < m
      · rw [if_pos h2] at ih; rw [if_pos (by omega)]; omega
      · rw [if_neg h2] at ih; rw [if_neg (by omega)]; omega
    · by_cases h2 : m = c
      · subst h2
        have : ¬ (m ≠ a ∧ m ≠ m) := fun h => h.2 rfl
        rw [if_neg this]
        simp only [Nat.lt_irrefl, if_false, Nat.lt_succ_self, if_true] at ih ⊢
        by_cases h3 : a < m
        · rw [if_pos h3] at ih; rw [if_pos (by omega)]; omega
        · rw [if_neg h3] at ih; rw [if_neg (by omega)]; omega
      · rw [if_pos ⟨h1, h2⟩, List.length_append, List.length_singleton]
        have e1 : (if a < m + 1 then 1 else 0) = (if a < m then 1 else 0) := by split <;> split <;> omega
        have e2 : (if c < m + 1 then 1 else 0) = (if c < m then 1 else 0) := by split <;> split <;> omega
        rw [e1, e2]; omega

theorem restN_le (l : List Int) (a c : Nat) : ∀ (m : Nat), (restN l a c m).length ≤ m
  | 0 => by simp [restN]
  | m + 1 => by
    have ih := restN_le l a c m
    rw [restN]
    split
    · rw [List.length_append, List.length_singleton]; omega
    · omega

/-- One join more. -/
theorem MI.step {n : Nat} {js : List (Int × Int)} {roots : List Int} (M : MI n js roots) {a c : Nat} (ha : a < roots.length) (hc : c < roots.length) (hne : a ≠ c) :
    MI n (js ++ [(roots.getD a 0, roots.getD c 0)]) (restN roots a c roots.length ++ [((n + (js.length + 1) - 1 : Nat) : Int)]) := by
  have mem : ∀ i, i < roots.length → roots.getD i 0 ∈ roots := fun i hi => by
    rw [List.getD_eq_getElem?_getD, List.getElem?_eq_getElem hi]; exact List.getElem_mem hi
  have ra := M.root _ (mem a ha)
  have rc := M.root _ (mem c hc)
  have hac : roots.getD a 0 ≠ roots.getD c 0 := fun e => hne (getD_inj M.nodup ha hc e)
  have hflat : flat (js ++ [(roots.getD a 0, roots.getD c 0)]) = flat js ++ [roots.getD a 0, roots.getD c 0] := by simp [flat]
  have hlen : (js ++ [(roots.getD a 0, roots.getD c 0)]).length = js.length + 1 := by simp
  have hrl := restN_length roots hne roots.length
  rw [if_pos ha, if_pos hc] at hrl
  refine ⟨?_, ?_, ?_, ?_, ?_⟩
  · rw [joinsOk_snoc, M.ok, Bool.true_and]
    simp only [Nat.zero_add, List.nil_append, Bool.and_eq_true, decide_eq_true_eq]
    have e : ((n : Int) + (js.length : Nat)) = ((n + js.length : Nat) : Int) := by omega
    rw [e]
    refine ⟨ra, rc.1, rc.2.1, fun h => ?_⟩
    rcases List.mem_append.1 h with h | h
    · exact rc.2.2 h
    · simp only [List.mem_singleton] at h; exact hac h.symm
  · rw [List.nodup_append]
    refine ⟨restN_nodup M.nodup a c _ (Nat.le_refl _), by simp, fun x hx y hy e => ?_⟩
    obtain ⟨i, h1, _, _, h2⟩ := restN_mem _ a c _ x hx
    have := (M.root _ (mem i h1)).2.1
    simp only [List.mem_singleton] at hy
    omega
  · intro x hx
    rw [hflat, hlen]
    rcases List.mem_append.1 hx with hx | hx
    · obtain ⟨i, h1, h2, h3, h4⟩ := restN_mem _ a c _ x hx
      have r := M.root _ (mem i h1)
      rw [← h4] at r
      refine ⟨r.1, by omega, fun h => ?_⟩
      rcases List.mem_append.1 h with h | h
      · exact r.2.2 h
      · simp only [List.mem_cons, List.not_mem_nil, or_false] at h
        rcases h with h | h
        · exact h2 (getD_inj M.nodup h1 ha (h4.symm.trans h))
        · exact h3 (getD_inj M.nodup h1 hc (h4.symm.trans h))
    · simp only [List.mem_singleton] at hx
      subst hx
      refine ⟨by omega, by omega, fun h => ?_⟩
      rcases List.mem_append.1 h with h | h
      · have := M.low _ h; omega
      · simp only [List.mem_cons, List.not_mem_nil, or_false] at h
        rcases h with h | h <;> omega
  · intro x hx
    rw [hflat] at hx
    rw [hlen]
    rcases List.mem_append.1 hx with hx | hx
    · have := M.low _ hx; omega
    · simp only [List.mem_cons, List.not_mem_nil, or_false] at hx
      rcases hx with rfl | rfl <;> omega
  · have := M.size
    simp only [List.length_append, List.length_singleton]
    omega

theorem MI.tree {n : Nat} (hn : 2 ≤ n ∧ n ≤ 8) {js : List (Int × Int)} {roots : List Int} (M : MI n js roots) (h1 : roots.length = 1) : treeB n js = true := by
  have := M.size
  rw [treeB, M.ok, Bool.and_true]
  exact decide_eq_true (by omega)

end Go.AM.TP
