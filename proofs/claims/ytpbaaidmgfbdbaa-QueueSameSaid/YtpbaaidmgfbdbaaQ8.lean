/- slices.Repeat of one element. -/
import Derived.Test.YtpbaaidmgfbdbaaQ7
set_option linter.unusedVariables false
set_option linter.unusedSimpArgs false
set_option maxRecDepth 20000
namespace Go.AM.Q
open Go.AM Go.AM.Fn
attribute [local congr] ite_cond

/-- A row of cells, so many times. -/
def reps (k : Nat) (x : List Value) : List Value := (List.replicate k x).flatten
theorem reps_zero (x : List Value) : reps 0 x = [] := rfl
theorem reps_succ (k : Nat) (x : List Value) : reps (k + 1) x = x ++ reps k x := by simp [reps, List.replicate_succ]
theorem reps_add (j k : Nat) (x : List Value) : reps (j + k) x = reps j x ++ reps k x := by
  induction j with
  | zero => simp [reps_zero]
  | succ j ih => rw [Nat.succ_add, reps_succ, reps_succ, ih, List.append_assoc]
theorem reps_length (k : Nat) (x : List Value) : (reps k x).length = k * x.length := by
  induction k with
  | zero => simp [reps_zero]
  | succ k ih => rw [reps_succ, List.length_append, ih, Nat.succ_mul]; omega

theorem made_reps (z : List Value) (hz : z.length ≠ 0) (n : Nat) : made z (n * z.length) = reps n z := by
  induction n with
  | zero => simp [made, reps_zero]
  | succ n ih =>
    rw [reps_add, Nat.succ_mul]
    have e1 : made z (n * z.length + z.length) = made z (n * z.length) ++ z := by
      apply List.ext_getElem?
      intro i
      unfold made
      rw [List.getElem?_map]
      by_cases h1 : i < n * z.length
      · rw [List.getElem?_append_left (by simpa using h1), List.getElem?_map, List.getElem?_range (by omega), List.getElem?_range h1]
      · rw [List.getElem?_append_right (by simp; omega)]
        simp only [List.length_map, List.length_range]
        by_cases h2 : i < n * z.length + z.length
        · rw [List.getElem?_range h2]
          have h3 : i % z.length = i - n * z.length := by
            have : i = (i - n * z.length) + n * z.length := by omega
            rw [this, Nat.add_mul_mod_self_right, Nat.mod_eq_of_lt (by omega)]
            omega
          have h4 : i - n * z.length < z.length := by omega
          simp only [Option.map_some, h3]
          rw [List.getD_eq_getElem?_getD, List.getElem?_eq_getElem h4]; rfl
        · rw [List.getElem?_eq_none (by simp; omega), List.getElem?_eq_none (by omega)]; rfl
    rw [e1, ih]; simp [reps_succ, reps_zero]

/-- The cells behind k copies of N. -/
def half (k N : Nat) (x z : List Value) : List Value := reps k x ++ reps (N - k) z

theorem half_length {k N : Nat} (hk : k ≤ N) {x z : List Value} (he : z.length = x.length) : (half k N x z).length = N * x.length := by
  unfold half
  rw [List.length_append, reps_length, reps_length, he, ← Nat.add_mul]
  congr 1; omega

theorem half_write {k m N : Nat} (hm : k + m ≤ N) {x z : List Value} (he : z.length = x.length) : (half k N x z).take (k * x.length) ++ reps m x ++ (half k N x z).drop (k * x.length + m * x.length) = half (k + m) N x z := by
  unfold half
  have l1 : k * x.length = (reps k x).length := (reps_length k x).symm
  rw [l1, List.take_left]
  rw [← List.drop_drop, List.drop_left]
  have e2 : reps (N - k) z = reps m z ++ reps (N - (k + m)) z := by rw [← reps_add]; congr 1; omega
  rw [e2, show m * x.length = (reps m z).length by rw [reps_length, he], List.drop_left, reps_add]

theorem half_read {k m N : Nat} (hm : m ≤ k) {x z : List Value} : (half k N x z).take (m * x.length) = reps m x := by
  unfold half
  have e2 : reps k x = reps m x ++ reps (k - m) x := by rw [← reps_add]; congr 1; omega
  rw [e2, List.append_assoc, ← reps_length, List.take_left]

end Go.AM.Q
