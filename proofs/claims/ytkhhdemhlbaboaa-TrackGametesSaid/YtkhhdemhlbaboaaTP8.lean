/- Small parsimony, in plain lists: the joins but one, renamed, one after the other. -/
import Derived.Test.YtkhhdemhlbaboaaTP7
set_option linter.unusedVariables false
set_option linter.unusedSimpArgs false
namespace Go.AM.TP

def mvN (J : List (Int × Int)) (I : Int) (m : Nat) : Nat → List (Int × Int)
  | 0 => []
  | i + 1 => if i = m then mvN J I m i else mvN J I m i ++ [nm2 I (J.getD i (0, 0))]

theorem mvN_low {J : List (Int × Int)} {I : Int} {m : Nat} : ∀ i, i ≤ m → i ≤ J.length → mvN J I m i = (J.take i).map (nm2 I)
  | 0, _, _ => rfl
  | i + 1, h, hl => by
    rw [mvN, if_neg (by omega), mvN_low i (by omega) (by omega), List.take_succ_eq_append_getElem (show i < J.length by omega), List.map_append]
    simp [List.getD, show i < J.length by omega]
theorem mvN_high {J : List (Int × Int)} {I : Int} {m : Nat} (hm : m < J.length) : ∀ d, m + 1 + d ≤ J.length → mvN J I m (m + 1 + d) = (J.take m).map (nm2 I) ++ ((J.drop (m + 1)).take d).map (nm2 I)
  | 0, h => by rw [Nat.add_zero, mvN, if_pos rfl, mvN_low m (Nat.le_refl _) (by omega)]; simp
  | d + 1, h => by
    have hd : d < (J.drop (m + 1)).length := by rw [List.length_drop]; omega
    have hj : m + 1 + d < J.length := by omega
    rw [show m + 1 + (d + 1) = (m + 1 + d) + 1 from rfl, mvN, if_neg (by omega), mvN_high hm d (by omega), List.take_succ_eq_append_getElem hd, List.map_append, List.append_assoc]
    simp [List.getD, hj]
theorem mvN_all (pre post : List (Int × Int)) (p r : Int × Int) (I : Int) : mvN (pre ++ p :: post ++ [r]) I pre.length (pre.length + 1 + post.length) = pre.map (nm2 I) ++ post.map (nm2 I) := by
  rw [mvN_high (by simp) _ (by simp; omega)]
  congr 1
  · simp
  · congr 1
    have : (pre ++ p :: post ++ [r]).drop (pre.length + 1) = post ++ [r] := by
      rw [show pre ++ p :: post ++ [r] = (pre ++ [p]) ++ (post ++ [r]) by simp]
      rw [show pre.length + 1 = (pre ++ [p]).length by simp, List.drop_left]
    rw [this, List.take_left]
theorem mvN_length (J : List (Int × Int)) (I : Int) (m : Nat) : ∀ i, (mvN J I m i).length ≤ i
  | 0 => by simp [mvN]
  | i + 1 => by
    have ih := mvN_length J I m i
    rw [mvN]; split
    · omega
    · simp; omega

/-- A list about two of its places. -/
theorem split_at {J : List (Int × Int)} {m : Nat} (h : m + 1 < J.length) : ∃ pre post p r, J = pre ++ p :: post ++ [r] ∧ pre.length = m ∧ J.length = pre.length + 1 + post.length + 1 ∧ J.getD m (0, 0) = p ∧ J.getD (J.length - 1) (0, 0) = r := by
  have hne : J ≠ [] := fun e => by rw [e] at h; simp at h
  have e1 : J = J.dropLast ++ [J.getLast hne] := (List.dropLast_concat_getLast hne).symm
  have l1 : J.dropLast.length = J.length - 1 := List.length_dropLast
  have hm : m < J.dropLast.length := by omega
  have e2 : J.dropLast = J.dropLast.take m ++ J.dropLast[m] :: J.dropLast.drop (m + 1) := by rw [← List.drop_eq_getElem_cons hm, List.take_append_drop]
  refine ⟨J.dropLast.take m, J.dropLast.drop (m + 1), J.dropLast[m], J.getLast hne, ?_, by simp; omega, by simp; omega, ?_, ?_⟩
  · rw [← e2]; exact e1
  · rw [List.getD_eq_getElem?_getD, List.getElem?_eq_getElem (by omega)]
    simp [List.getElem_dropLast]
  · rw [List.getLast_eq_getElem, List.getD_eq_getElem?_getD, List.getElem?_eq_getElem (by omega)]; rfl

end Go.AM.TP
