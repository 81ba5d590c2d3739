/- Small parsimony, in plain lists: costs as functions; how a law makes them a metric. -/
import Derived.Test.YtkhhdemhlbaboaaTP1
set_option linter.unusedVariables false
set_option linter.unusedSimpArgs false
namespace Go.AM.TP

def rowF (k : Nat) (f : Nat → Nat → Int) (a : Nat) : List Int := (List.range k).map (f a)
def matF (k : Nat) (f : Nat → Nat → Int) : List (List Int) := (List.range k).map (rowF k f)
def upd (f : Nat → Nat → Int) (a d : Nat) (y : Int) : Nat → Nat → Int := fun i j => if i = a ∧ j = d then y else f i j

theorem rowF_length (k : Nat) (f : Nat → Nat → Int) (a : Nat) : (rowF k f a).length = k := by simp [rowF]
theorem rowF_get {k : Nat} {f : Nat → Nat → Int} {a d : Nat} (h : d < k) : (rowF k f a).getD d 0 = f a d := getD_range_map _ _ _ _ h
theorem rowF_set {k : Nat} {f : Nat → Nat → Int} {a d : Nat} (y : Int) (i : Nat) : (if i = a then (rowF k f a).set d y else rowF k f i) = rowF k (upd f a d y) i := by
  by_cases e : i = a
  · subst e
    rw [if_pos rfl]
    unfold rowF
    apply List.ext_getElem?
    intro j
    rw [List.getElem?_set, List.getElem?_map, List.getElem?_map]
    by_cases hj : j < k
    · rw [List.getElem?_range hj]
      by_cases e2 : d = j
      · subst e2; simp [upd, hj]
      · have e3 : ¬ j = d := fun h => e2 h.symm
        simp [upd, e2, e3]
    · have hz : (List.range k)[j]? = none := List.getElem?_eq_none (by simpa using hj)
      rw [hz]
      by_cases e2 : d = j
      · subst e2; simp [hj]
      · simp [e2]
  · rw [if_neg e]
    unfold rowF
    apply List.map_congr_left
    intro j _
    simp [upd, e]
theorem matF_length (k : Nat) (f : Nat → Nat → Int) : (matF k f).length = k := by simp [matF]
theorem matF_get {k : Nat} {f : Nat → Nat → Int} {a d : Nat} (ha : a < k) (hd : d < k) : ((matF k f).getD a []).getD d 0 = f a d := by
  unfold matF
  rw [getD_range_map _ _ _ _ ha, rowF_get hd]

/-- Costs in bounds. -/
def Bd (k : Nat) (f : Nat → Nat → Int) : Prop := ∀ i j, i < k → j < k → 0 ≤ f i j ∧ f i j ≤ 100
theorem costsB_of {k : Nat} (hk : 1 ≤ k ∧ k ≤ 4) {f : Nat → Nat → Int} (h : Bd k f) : costsB (matF k f) = true := by
  simp only [costsB, matF_length, Bool.and_eq_true, decide_eq_true_eq, List.all_eq_true]
  refine ⟨hk, fun r hr => ?_⟩
  obtain ⟨a, ha, rfl⟩ := List.mem_map.1 hr
  have ha := List.mem_range.1 ha
  simp only [rowB, rowF_length, Bool.and_eq_true, decide_eq_true_eq, List.all_eq_true]
  refine ⟨trivial, fun c hc => ?_⟩
  obtain ⟨d, hd, rfl⟩ := List.mem_map.1 hc
  have hd := List.mem_range.1 hd
  exact h a d ha hd
theorem upd_bd {k : Nat} {f : Nat → Nat → Int} (h : Bd k f) {a d : Nat} {y : Int} (hy : 0 ≤ y ∧ y ≤ 100) : Bd k (upd f a d y) := by
  intro i j hi hj
  unfold upd
  split
  · exact hy
  · exact h i j hi hj

/-- Symmetric, with 0 on the diagonal, among the first states. -/
structure Sy (k a : Nat) (f : Nat → Nat → Int) : Prop where
  bd : Bd k f
  sym : ∀ i j, i < a → j < a → f i j = f j i
  zero : ∀ i, i < a → f i i = 0

theorem Sy.start {k : Nat} {f : Nat → Nat → Int} (h : Bd k f) : Sy k 0 f := ⟨h, fun i j hi => by omega, fun i hi => by omega⟩
/-- In the row of state a, up to d. -/
theorem Sy.inner {k a d : Nat} (ha : a < k) (hd : d < a) {f : Nat → Nat → Int} (s : Sy k a f) (hm : ∀ j, j < d → f j a = f a j) : Sy k a (upd f d a (f a d)) ∧ ∀ j, j < d + 1 → upd f d a (f a d) j a = upd f d a (f a d) a j := by
  refine ⟨⟨upd_bd s.bd (s.bd a d ha (by omega)), fun i j hi hj => ?_, fun i hi => ?_⟩, fun j hj => ?_⟩
  · unfold upd; rw [if_neg (by omega), if_neg (by omega)]; exact s.sym i j hi hj
  · unfold upd; rw [if_neg (by omega)]; exact s.zero i hi
  · unfold upd
    by_cases e : j = d
    · subst e; rw [if_pos ⟨rfl, rfl⟩, if_neg (by omega)]
    · rw [if_neg (by omega), if_neg (by omega)]; exact hm j (by omega)
theorem Sy.outer {k a : Nat} (ha : a < k) {f : Nat → Nat → Int} (s : Sy k a f) (hm : ∀ j, j < a → f j a = f a j) : Sy k (a + 1) (upd f a a 0) := by
  refine ⟨upd_bd s.bd (by omega), fun i j hi hj => ?_, fun i hi => ?_⟩
  · unfold upd
    by_cases e1 : i = a
    · by_cases e2 : j = a
      · subst e1; subst e2; rfl
      · rw [if_neg (by omega), if_neg (by omega)]; subst e1; exact (hm j (by omega)).symm
    · rw [if_neg (by omega), if_neg (by omega)]
      by_cases e2 : j = a
      · subst e2; exact hm i (by omega)
      · exact s.sym i j (by omega) (by omega)
  · unfold upd
    by_cases e : i = a
    · rw [if_pos ⟨e, e⟩]
    · rw [if_neg (by omega)]; exact s.zero i (by omega)

/-- Through one state. -/
def via (f : Nat → Nat → Int) (m : Nat) (i j : Nat) : Int := min (f i j) (f i m + f m j)
/-- Half way. -/
def Mid (k m : Nat) (f0 : Nat → Nat → Int) (a d : Nat) (f : Nat → Nat → Int) : Prop := ∀ i j, i < k → j < k → f i j = if i < a ∨ (i = a ∧ j < d) then via f0 m i j else f0 i j
/-- Triangles over the first states. -/
structure Tri (k m : Nat) (f : Nat → Nat → Int) : Prop where
  sy : Sy k k f
  tri : ∀ p i j, p < m → i < k → j < k → f i j ≤ f i p + f p j

theorem via_bd {k m : Nat} (hm : m < k) {f : Nat → Nat → Int} (s : Sy k k f) {i j : Nat} (hi : i < k) (hj : j < k) : 0 ≤ via f m i j ∧ via f m i j ≤ 100 := by
  have h1 := s.bd i j hi hj
  have h2 := s.bd i m hi hm
  have h3 := s.bd m j hm hj
  unfold via; omega

theorem Mid.value {k m : Nat} (hm : m < k) {f0 f : Nat → Nat → Int} (s : Sy k k f0) {a d : Nat} (M : Mid k m f0 a d f) (ha : a < k) (hd : d < k) : f a d = f0 a d ∧ f a m = f0 a m ∧ f m d = f0 m d := by
  have z := s.zero m hm
  have b1 := s.bd a m ha hm
  have b2 := s.bd m d hm hd
  refine ⟨by rw [M a d ha hd, if_neg (by omega)], ?_, ?_⟩
  · rw [M a m ha hm]; split
    · unfold via; omega
    · rfl
  · rw [M m d hm hd]; split
    · unfold via; omega
    · rfl
theorem Mid.bd {k m : Nat} (hm : m < k) {f0 f : Nat → Nat → Int} (s : Sy k k f0) {a d : Nat} (M : Mid k m f0 a d f) : Bd k f := by
  intro i j hi hj
  rw [M i j hi hj]; split
  · exact via_bd hm s hi hj
  · exact s.bd i j hi hj
theorem Mid.step {k m : Nat} {f0 f : Nat → Nat → Int} {a d : Nat} (M : Mid k m f0 a d f) {y : Int} (hy : y = via f0 m a d) : Mid k m f0 a (d + 1) (upd f a d y) := by
  intro i j hi hj
  unfold upd
  by_cases e : i = a ∧ j = d
  · rw [if_pos e, if_pos (by omega), hy, e.1, e.2]
  · rw [if_neg e, M i j hi hj]
    have : (i < a ∨ i = a ∧ j < d) ↔ (i < a ∨ i = a ∧ j < d + 1) := by omega
    simp only [this]
theorem Mid.next {k m : Nat} {f0 f : Nat → Nat → Int} {a : Nat} (M : Mid k m f0 a k f) : Mid k m f0 (a + 1) 0 f := by
  intro i j hi hj
  rw [M i j hi hj]
  have : (i < a ∨ i = a ∧ j < k) ↔ (i < a + 1 ∨ i = a + 1 ∧ j < 0) := by omega
  simp only [this]
theorem Mid.start {k m : Nat} {f0 : Nat → Nat → Int} : Mid k m f0 0 0 f0 := by
  intro i j hi hj
  rw [if_neg (by omega)]

theorem Tri.step {k m : Nat} (hm : m < k) {f0 f : Nat → Nat → Int} (t : Tri k m f0) (M : Mid k m f0 k 0 f) : Tri k (m + 1) f := by
  have v : ∀ i j, i < k → j < k → f i j = via f0 m i j := fun i j hi hj => by rw [M i j hi hj, if_pos (by omega)]
  have s := t.sy
  have z := s.zero m hm
  refine ⟨⟨M.bd hm s, fun i j hi hj => ?_, fun i hi => ?_⟩, fun p i j hp hi hj => ?_⟩
  · rw [v i j hi hj, v j i hj hi]
    have h1 := s.sym i j hi hj
    have h2 := s.sym i m hi hm
    have h3 := s.sym m j hm hj
    unfold via; omega
  · rw [v i i hi hi]
    have h1 := s.zero i hi
    have h2 := s.bd i m hi hm
    have h3 := s.bd m i hm hi
    unfold via; omega
  · have hpk : p < k := by omega
    rw [v i j hi hj, v i p hi hpk, v p j hpk hj]
    by_cases e : p = m
    · subst e
      have h2 := s.bd i p hi hm
      have h3 := s.bd p j hm hj
      unfold via; omega
    · have t1 := t.tri p i j (by omega) hi hj
      have t2 := t.tri p m j (by omega) hm hj
      have t3 := t.tri p i m (by omega) hi hm
      have b1 := s.bd m p hm hpk
      have b2 := s.bd p m hpk hm
      unfold via; omega

end Go.AM.TP
