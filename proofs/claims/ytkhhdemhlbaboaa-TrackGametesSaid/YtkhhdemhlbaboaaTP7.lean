/- Small parsimony, in plain lists: with a metric the least cost does not depend on the root. -/
import Derived.Test.YtkhhdemhlbaboaaTP6
set_option linter.unusedVariables false
set_option linter.unusedSimpArgs false
namespace Go.AM.TP

theorem below_char {k : Nat} {t : Tab} (ft : Fine k t) {row : List Int} (hr : ∀ i, i < k → 0 ≤ row.getD i 0 ∧ row.getD i 0 ≤ 100) : ∀ s, s ≤ k →
    (∀ y, y < s → t.2.getD y 0 ≠ 0 → (belowN t row s).1 ≤ t.1.getD y 0 + row.getD y 0) ∧ ((∃ y, y < s ∧ t.2.getD y 0 ≠ 0 ∧ (belowN t row s).1 = t.1.getD y 0 + row.getD y 0) ∨ (belowN t row s = (far, 0) ∧ ∀ y, y < s → t.2.getD y 0 = 0))
  | 0, _ => ⟨fun y h => by omega, .inr ⟨rfl, fun y h => by omega⟩⟩
  | s + 1, hs => by
    obtain ⟨i1, i2⟩ := below_char ft hr s (by omega)
    have c := ft.cell s (by omega)
    have r := hr s (by omega)
    rw [belowN, stepW]
    by_cases hw : t.2.getD s 0 = 0
    · rw [if_pos hw]
      refine ⟨fun y hy hne => ?_, ?_⟩
      · by_cases e : y = s
        · rw [e] at hne; exact absurd hw hne
        · exact i1 y (by omega) hne
      · rcases i2 with ⟨y, h1, h2, h3⟩ | ⟨h1, h2⟩
        · exact .inl ⟨y, by omega, h2, h3⟩
        · refine .inr ⟨h1, fun y hy => ?_⟩
          by_cases e : y = s
          · rw [e]; exact hw
          · exact h2 y (by omega)
    · rw [if_neg hw]
      have c' : 0 ≤ t.1.getD s 0 ∧ t.1.getD s 0 ≤ 2000 := by rcases c with c | c; exact absurd c.2 hw; omega
      by_cases d1 : t.1.getD s 0 + row.getD s 0 < (belowN t row s).1
      · rw [if_pos d1]
        refine ⟨fun y hy hne => ?_, .inl ⟨s, by omega, hw, rfl⟩⟩
        by_cases e : y = s
        · rw [e]; exact Int.le_refl _
        · have := i1 y (by omega) hne
          simp only; omega
      · rw [if_neg d1]
        have i3 : ∃ y, y < s ∧ t.2.getD y 0 ≠ 0 ∧ (belowN t row s).1 = t.1.getD y 0 + row.getD y 0 := by
          rcases i2 with h | ⟨h1, h2⟩
          · exact h
          · rw [h1] at d1; exact absurd (show t.1.getD s 0 + row.getD s 0 < far by unfold far; omega) d1
        have key : ∀ b : Int × Int, b.1 = (belowN t row s).1 → (∀ y, y < s + 1 → t.2.getD y 0 ≠ 0 → b.1 ≤ t.1.getD y 0 + row.getD y 0) ∧ ((∃ y, y < s + 1 ∧ t.2.getD y 0 ≠ 0 ∧ b.1 = t.1.getD y 0 + row.getD y 0) ∨ (b = (far, 0) ∧ ∀ y, y < s + 1 → t.2.getD y 0 = 0)) := by
          intro b hb
          refine ⟨fun y hy hne => ?_, .inl ?_⟩
          · by_cases e : y = s
            · rw [hb, e]; omega
            · rw [hb]; exact i1 y (by omega) hne
          · obtain ⟨y, h1, h2, h3⟩ := i3
            exact ⟨y, by omega, h2, by rw [hb]; exact h3⟩
        split
        · exact key _ rfl
        · exact key _ rfl

/-- The least cost below an edge. -/
def dist (k : Nat) (f : Nat → Nat → Int) (t : Tab) (s : Nat) : Int := (belowN t ((matF k f).getD s []) k).1

theorem dist_char {k : Nat} {f : Nat → Nat → Int} (bf : Bd k f) {t : Tab} (ft : Fine k t) {s : Nat} (hs : s < k) : (∀ y, y < k → t.2.getD y 0 ≠ 0 → dist k f t s ≤ t.1.getD y 0 + f s y) ∧ ∃ y, y < k ∧ t.2.getD y 0 ≠ 0 ∧ dist k f t s = t.1.getD y 0 + f s y := by
  have c := below_char ft (row := (matF k f).getD s []) (fun i hi => by rw [matF_get hs hi]; exact bf s i hs hi) k (Nat.le_refl _)
  refine ⟨fun y hy hne => ?_, ?_⟩
  · have := c.1 y hy hne
    rw [matF_get hs hy] at this; exact this
  · rcases c.2 with ⟨y, h1, h2, h3⟩ | ⟨_, h2⟩
    · rw [matF_get hs h1] at h3; exact ⟨y, h1, h2, h3⟩
    · obtain ⟨y, h1, h3⟩ := ft.some_
      exact absurd (h2 y h1) h3

/-- One edge more does not lessen it by more than the edge. -/
theorem dist_tri {k : Nat} {f : Nat → Nat → Int} (T : Tri k k f) {t : Tab} (ft : Fine k t) {s y : Nat} (hs : s < k) (hy : y < k) : dist k f t y ≤ dist k f t s + f y s := by
  obtain ⟨z, hz, h1, h2⟩ := (dist_char T.sy.bd ft hs).2
  have h3 := (dist_char T.sy.bd ft hy).1 z hz h1
  have h4 := T.tri s y z hs hy hz
  omega

/-- A join: what each state costs. -/
theorem join_cost {k : Nat} {f : Nat → Nat → Int} {a b : Tab} {s : Nat} (hs : s < k) : (joinT k (matF k f) a b).1.getD s 0 = dist k f a s + dist k f b s := by
  simp only [joinT, getD_range_map _ _ _ _ hs, dist]

theorem join_poss {k : Nat} (hk : 1 ≤ k ∧ k ≤ 4) {f : Nat → Nat → Int} (bf : Bd k f) {a b : Tab} (fa : Fine k a) (fb : Fine k b) {s : Nat} (hs : s < k) : (joinT k (matF k f) a b).2.getD s 0 ≠ 0 :=
  (join_wt (costsB_of hk bf) (matF_length k f) fa fb (by decide) (by decide) (by decide) (by decide) (by decide)).2 s hs

/-- The least of all states of a root. -/
theorem least_char {k : Nat} {t : Tab} (ft : Fine k t) (hp : ∀ s, s < k → t.2.getD s 0 ≠ 0) : (∀ s, s < k → (belowN t (zeros k) k).1 ≤ t.1.getD s 0) ∧ ∃ s, s < k ∧ (belowN t (zeros k) k).1 = t.1.getD s 0 := by
  have c := below_char ft (row := zeros k) (fun i _ => by rw [zeros_get]; omega) k (Nat.le_refl _)
  refine ⟨fun s hs => ?_, ?_⟩
  · have := c.1 s hs (hp s hs)
    rw [zeros_get] at this; omega
  · rcases c.2 with ⟨y, h1, h2, h3⟩ | ⟨_, h2⟩
    · rw [zeros_get] at h3; exact ⟨y, h1, by omega⟩
    · obtain ⟨y, h1, h3⟩ := ft.some_
      exact absurd (h2 y h1) h3

theorem root_metric {k : Nat} (hk : 1 ≤ k ∧ k ≤ 4) {f : Nat → Nat → Int} (T : Tri k k f) {a b c R R' : Tab} (fa : Fine k a) (fb : Fine k b) (fc : Fine k c) (fab : Fine k (joinT k (matF k f) a b)) (fbc : Fine k (joinT k (matF k f) b c)) (fR : Fine k R) (fR' : Fine k R')
    (hR : ∀ s, s < k → R.1.getD s 0 = dist k f (joinT k (matF k f) a b) s + dist k f c s) (hR' : ∀ s, s < k → R'.1.getD s 0 = dist k f a s + dist k f (joinT k (matF k f) b c) s) (pR : ∀ s, s < k → R.2.getD s 0 ≠ 0) (pR' : ∀ s, s < k → R'.2.getD s 0 ≠ 0) :
    (belowN R (zeros k) k).1 = (belowN R' (zeros k) k).1 := by
  have bd := T.sy.bd
  have m := least_char fR pR
  have m' := least_char fR' pR'
  refine Int.le_antisymm ?_ ?_
  · obtain ⟨s, hs, e⟩ := m'.2
    obtain ⟨y, hy, _, e2⟩ := (dist_char bd fbc hs).2
    rw [join_cost hy] at e2
    have h1 := dist_tri T fa hs hy
    have h2 := T.sy.sym s y hs hy
    have h3 := (dist_char bd fab hy).1 y hy (join_poss hk bd fa fb hy)
    rw [join_cost hy, T.sy.zero y hy] at h3
    have h4 := m.1 y hy
    rw [hR y hy] at h4
    rw [e, hR' s hs, e2]
    omega
  · obtain ⟨s, hs, e⟩ := m.2
    obtain ⟨y, hy, _, e2⟩ := (dist_char bd fab hs).2
    rw [join_cost hy] at e2
    have h1 := dist_tri T fc hs hy
    have h2 := T.sy.sym s y hs hy
    have h3 := (dist_char bd fbc hy).1 y hy (join_poss hk bd fb fc hy)
    rw [join_cost hy, T.sy.zero y hy] at h3
    have h4 := m'.1 y hy
    rw [hR' y hy] at h4
    rw [e, hR s hs, e2]
    omega

/-- Where joins stand after some of them. -/
theorem At.run {n k : Nat} (hn : n ≤ 8) {C : List (List Int)} (hc : costsB C = true) (hk : C.length = k) : ∀ (js r : List (Int × Int)) (acc : List Tab), At n k C acc (js ++ r) → At n k C (nodesT k C acc js) r
  | [], r, acc, A => A
  | (a, b) :: l, r, acc, A => by
    rw [nodesT]
    exact At.run hn hc hk l r _ (A.step hn hc hk).2.2.2.2.2.2

theorem last_snoc {α : Type} (l : List α) (x : α) : (l ++ [x]).getLast? = some x := by simp

theorem answer_moved {n k : Nat} (hn : n ≤ 8) (hk : 1 ≤ k ∧ k ≤ 4) {f : Nat → Nat → Int} (T : Tri k k f) {l : List Int} (hl : statesB n k l = true) {pre post : List (Int × Int)} {pA pB rA rB o : Int} (ht : treeB n (pre ++ (pA, pB) :: post ++ [(rA, rB)]) = true) (hr : (rA = ((n + pre.length : Nat) : Int) ∧ rB = o) ∨ (rB = ((n + pre.length : Nat) : Int) ∧ rA = o)) :
    (answer k (matF k f) l (pre ++ (pA, pB) :: post ++ [(rA, rB)])).1 = (answer k (matF k f) l (movedJ ((n + pre.length + post.length : Nat) : Int) ((n + pre.length : Nat) : Int) pre post pA pB o)).1 := by
  have bd := T.sy.bd
  have hc := costsB_of hk bd
  have hlen := matF_length k f
  obtain ⟨mt, m1, m2, m3, m4, m5, m6, m7⟩ := moved_tree ht hr
  have hll : l.length = n := by simp only [statesB, Bool.and_eq_true, decide_eq_true_eq] at hl; omega
  obtain ⟨t1, t2, t3, t4, ⟨s1, s2, s3, s4⟩, t5⟩ := moved_tables (k := k) (C := matF k f) (acc := l.map (leafT k)) (by simp [hll]) m1 m2 m3 m4 m5 m6 m7
  obtain ⟨R, r1, fR, pR, eR⟩ := root_of hn hc hlen hl ht
  obtain ⟨R', r1', fR', pR', eR'⟩ := root_of hn hc hlen hl mt
  have A0 := start_at (costs := matF k f) hl ht
  rw [List.append_assoc] at A0
  have A1 := A0.run hn hc hlen pre _ _
  obtain ⟨_, _, _, _, fa, fb, A2⟩ := At.step hn hc hlen A1
  have A3 := A2.run hn hc hlen post _ _
  obtain ⟨_, _, _, _, f1, f2, _⟩ := A3.step hn hc hlen
  have B0 := start_at (costs := matF k f) hl mt
  unfold movedJ at B0
  have B1 := B0.run hn hc hlen _ _ _
  obtain ⟨_, _, _, _, _, _, B2⟩ := B1.step hn hc hlen
  obtain ⟨_, _, _, _, _, f4, _⟩ := B2.step hn hc hlen
  unfold tabs at r1 r1'
  rw [t5, last_snoc, Option.some.injEq] at r1'
  rw [List.append_assoc, nodesT_app, List.cons_append, nodesT, nodesT_app, nodesT, nodesT, last_snoc, Option.some.injEq] at r1
  rw [s1, s3, s4, Int.toNat_natCast, getD_snoc, if_neg (by omega), if_pos (by omega)] at f4
  try simp only at t1
  generalize nodesT k (matF k f) (l.map (leafT k)) pre = ts1 at *
  generalize ts1.getD pA.toNat ([], []) = a at *
  generalize ts1.getD pB.toNat ([], []) = b at *
  generalize nodesT k (matF k f) (ts1 ++ [joinT k (matF k f) a b]) post = ts2 at *
  rw [eR, eR']
  rcases hr with ⟨h1, h2⟩ | ⟨h1, h2⟩
  · rw [h1, Int.toNat_natCast, t1] at f1 r1
    rw [h2] at f2 r1
    exact root_metric hk T fa fb f2 f1 f4 fR fR' (fun s hs => by rw [← r1, join_cost hs]) (fun s hs => by rw [← r1', join_cost hs]) pR pR'
  · rw [h1, Int.toNat_natCast, t1] at f2 r1
    rw [h2] at f1 r1
    exact root_metric hk T fa fb f1 f2 f4 fR fR' (fun s hs => by rw [← r1, join_cost hs, Int.add_comm]) (fun s hs => by rw [← r1', join_cost hs]) pR pR'

end Go.AM.TP
