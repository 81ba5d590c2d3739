/- Small parsimony, in plain lists: Fitch's sets. -/
import Derived.Test.YtkhhdemhlbaboaaTP7
set_option linter.unusedVariables false
set_option linter.unusedSimpArgs false
namespace Go.AM.TP

/-- Fitch's sets as bits, and the number of changes. -/
def fitchN : List Nat → Nat → List (Int × Int) → List Nat × Nat
  | acc, ch, [] => (acc, ch)
  | acc, ch, (a, b) :: l => if acc.getD a.toNat 0 &&& acc.getD b.toNat 0 = 0 then fitchN (acc ++ [acc.getD a.toNat 0 ||| acc.getD b.toNat 0]) (ch + 1) l else fitchN (acc ++ [acc.getD a.toNat 0 &&& acc.getD b.toNat 0]) ch l

def unitF (a b : Nat) : Int := if a = b then 0 else 1
theorem unit_bd (k : Nat) : Bd k unitF := fun i j _ _ => by unfold unitF; split <;> omega

/-- A table and Fitch's set of the node. -/
structure FR (k : Nat) (t : Tab) (S F : Nat) : Prop where
  lt : S < 2 ^ k
  ge : ∀ s, s < k → t.2.getD s 0 ≠ 0 → (F : Int) ≤ t.1.getD s 0
  eq : ∀ s, s < k → t.2.getD s 0 ≠ 0 → (t.1.getD s 0 = (F : Int) ↔ S.testBit s = true)
  non : ∀ s, s < k → t.2.getD s 0 = 0 → S.testBit s = false
  one : ∃ s, s < k ∧ S.testBit s = true

theorem leaf_fr {k l : Nat} (hl : l < k) : FR k (leafT k (l : Int)) (1 <<< l) 0 := by
  have tb : ∀ s, (1 <<< l).testBit s = decide (s = l) := fun s => by
    rw [Nat.one_shiftLeft, Nat.testBit_two_pow]
    exact decide_eq_decide.2 ⟨fun h => h.symm, fun h => h.symm⟩
  refine ⟨by rw [Nat.one_shiftLeft]; exact Nat.pow_lt_pow_right (by decide) hl, fun s hs hne => ?_, fun s hs hne => ?_, fun s hs h0 => ?_, l, hl, by rw [tb]; simp⟩
  · simp only [leafT, getD_range_map _ _ _ _ hs] at hne ⊢
    split <;> simp_all [far]
  · rw [tb]
    simp only [leafT, getD_range_map _ _ _ _ hs] at hne ⊢
    by_cases e : s = l
    · subst e; simp
    · have e' : ¬ (s : Int) = (l : Int) := by omega
      simp [e'] at hne
  · rw [tb]
    simp only [leafT, getD_range_map _ _ _ _ hs] at h0
    by_cases e : s = l
    · subst e; simp at h0
    · simp [e]

theorem fr_dist {k : Nat} {t : Tab} (ft : Fine k t) {S F : Nat} (r : FR k t S F) {s : Nat} (hs : s < k) : dist k unitF t s = (F : Int) + (if S.testBit s = true then 0 else 1) := by
  obtain ⟨c1, y, hy, hp, c2⟩ := dist_char (unit_bd k) ft hs
  obtain ⟨y0, h0, b0⟩ := r.one
  have p0 : t.2.getD y0 0 ≠ 0 := fun e => by rw [r.non y0 h0 e] at b0; cases b0
  have e0 := (r.eq y0 h0 p0).2 b0
  have g := r.ge y hy hp
  by_cases hb : S.testBit s = true
  · rw [if_pos hb]
    have ps : t.2.getD s 0 ≠ 0 := fun e => by rw [r.non s hs e] at hb; cases hb
    have es := (r.eq s hs ps).2 hb
    have c3 := c1 s hs ps
    rw [show unitF s s = 0 from if_pos rfl] at c3
    rw [show unitF s y = if s = y then 0 else 1 from rfl] at c2
    split at c2 <;> omega
  · rw [if_neg hb]
    have c3 := c1 y0 h0 p0
    have hne : s ≠ y0 := fun e => hb (e ▸ b0)
    rw [show unitF s y0 = 1 from if_neg hne] at c3
    rw [show unitF s y = if s = y then 0 else 1 from rfl] at c2
    by_cases e : s = y
    · subst e
      have : t.1.getD s 0 ≠ (F : Int) := fun h => hb ((r.eq s hs hp).1 h)
      rw [if_pos rfl] at c2
      omega
    · rw [if_neg e] at c2
      omega

theorem join_fr {k : Nat} (hk : 1 ≤ k ∧ k ≤ 4) {a b : Tab} (fa : Fine k a) (fb : Fine k b) {A B Fa Fb : Nat} (ra : FR k a A Fa) (rb : FR k b B Fb) :
    (A &&& B = 0 → FR k (joinT k (matF k unitF) a b) (A ||| B) (Fa + Fb + 1)) ∧ (A &&& B ≠ 0 → FR k (joinT k (matF k unitF) a b) (A &&& B) (Fa + Fb)) := by
  have hc : ∀ s, s < k → (joinT k (matF k unitF) a b).1.getD s 0 = (Fa : Int) + (if A.testBit s = true then 0 else 1) + ((Fb : Int) + (if B.testBit s = true then 0 else 1)) := fun s hs => by rw [join_cost hs, fr_dist fa ra hs, fr_dist fb rb hs]
  have hp : ∀ s, s < k → (joinT k (matF k unitF) a b).2.getD s 0 ≠ 0 := fun s hs => join_poss hk (unit_bd k) fa fb hs
  refine ⟨fun h0 => ?_, fun h0 => ?_⟩
  · have nb : ∀ s, ¬ (A.testBit s = true ∧ B.testBit s = true) := fun s ⟨h1, h2⟩ => by
      have : (A &&& B).testBit s = true := by rw [Nat.testBit_and, h1, h2]; rfl
      rw [h0] at this; simp at this
    refine ⟨Nat.or_lt_two_pow ra.lt rb.lt, fun s hs _ => ?_, fun s hs _ => ?_, fun s hs e => absurd e (hp s hs), ?_⟩
    · rw [hc s hs]
      have := nb s
      by_cases h1 : A.testBit s = true <;> by_cases h2 : B.testBit s = true <;> simp [h1, h2] at this ⊢ <;> omega
    · rw [hc s hs, Nat.testBit_or]
      have := nb s
      by_cases h1 : A.testBit s = true <;> by_cases h2 : B.testBit s = true <;> simp [h1, h2] at this ⊢ <;> omega
    · obtain ⟨s, hs, h1⟩ := ra.one
      exact ⟨s, hs, by rw [Nat.testBit_or, h1]; rfl⟩
  · refine ⟨Nat.and_lt_two_pow _ rb.lt, fun s hs _ => ?_, fun s hs _ => ?_, fun s hs e => absurd e (hp s hs), ?_⟩
    · rw [hc s hs]; split <;> split <;> omega
    · rw [hc s hs, Nat.testBit_and]
      by_cases h1 : A.testBit s = true <;> by_cases h2 : B.testBit s = true <;> simp [h1, h2] <;> omega
    · obtain ⟨s, hs⟩ := Nat.exists_testBit_of_ne_zero h0
      refine ⟨s, ?_, hs⟩
      rcases Nat.lt_or_ge s k with h | h
      · exact h
      · have hlt := Nat.lt_of_lt_of_le (Nat.and_lt_two_pow A rb.lt) (Nat.pow_le_pow_right (by decide : 0 < 2) h)
        rw [Nat.testBit_lt_two_pow hlt] at hs; cases hs

/-- All of a list's numbers are added up. -/
theorem sum_all (f : Nat → Nat) : ∀ (l r : List Nat), l.Nodup → (∀ x ∈ l, x ∈ r) → r.length ≤ l.length → (r.map f).sum = (l.map f).sum
  | [], r, _, _, h => by
    have : r = [] := List.length_eq_zero_iff.1 (by simpa using h)
    rw [this]
  | a :: l, r, hn, hs, h => by
    have hn' := List.nodup_cons.1 hn
    have ha := hs a (by simp)
    rw [sum_map_erase f r a ha]
    simp only [List.map_cons, List.sum_cons]
    rw [sum_all f l (r.erase a) hn'.2 (fun x hx => (List.mem_erase_of_ne (fun e => hn'.1 (by rw [← e]; exact hx))).2 (hs x (by simp [hx]))) (by rw [List.length_erase_of_mem ha]; simp at h; omega)]

/-- Where Fitch's sets stand. -/
structure FI (n k d : Nat) (acc : List Tab) (sets : List Nat) (ch : Nat) (used : List Nat) (Fs : List Nat) : Prop where
  l1 : acc.length = n + d
  l2 : sets.length = n + d
  l3 : Fs.length = n + d
  lu : used.length = 2 * d
  nodup : used.Nodup
  lt : ∀ x ∈ used, x < n + d
  fr : ∀ i, i < n + d → FR k (acc.getD i ([], [])) (sets.getD i 0) (Fs.getD i 0)
  sum : Fs.sum = ch + (used.map fun i => Fs.getD i 0).sum

theorem fitch_run {n k : Nat} (hn : n ≤ 8) (hk : 1 ≤ k ∧ k ≤ 4) : ∀ (js : List (Int × Int)) (d : Nat) (acc : List Tab) (sets : List Nat) (ch : Nat) (used Fs : List Nat), At n k (matF k unitF) acc js → FI n k d acc sets ch used Fs → joinsOk n d (used.map Int.ofNat) js = true → (d = 0 ∨ n + d - 1 ∉ used) →
    ∃ used' Fs', FI n k (d + js.length) (nodesT k (matF k unitF) acc js) (fitchN sets ch js).1 (fitchN sets ch js).2 used' Fs' ∧ (d + js.length = 0 ∨ n + (d + js.length) - 1 ∉ used')
  | [], d, acc, sets, ch, used, Fs, _, I, _, h => ⟨used, Fs, I, h⟩
  | (a, b) :: l, d, acc, sets, ch, used, Fs, A, I, hj, _ => by
    obtain ⟨a0, a1, b0, b1, fa, fb, A2⟩ := A.step hn (costsB_of hk (unit_bd k)) (matF_length k unitF)
    have hl1 := I.l1
    have hl2 := I.l2
    have hl3 := I.l3
    simp only [joinsOk, Bool.and_eq_true, decide_eq_true_eq] at hj
    obtain ⟨⟨⟨_, _, a2⟩, _, _, b2⟩, hj⟩ := hj
    have hua : a.toNat ∉ used := fun h => a2 (List.mem_map.2 ⟨_, h, Int.toNat_of_nonneg a0⟩)
    have hub : b.toNat ∉ used := fun h => b2 (List.mem_append.2 (.inl (List.mem_map.2 ⟨_, h, Int.toNat_of_nonneg b0⟩)))
    have hne : a.toNat ≠ b.toNat := fun e => b2 (List.mem_append.2 (.inr (by simp; omega)))
    have ra := I.fr a.toNat (by omega)
    have rb := I.fr b.toNat (by omega)
    obtain ⟨j0, j1⟩ := join_fr hk fa fb ra rb
    have key : ∀ (S F δ : Nat), FR k (joinT k (matF k unitF) (acc.getD a.toNat ([], [])) (acc.getD b.toNat ([], []))) S F → F = Fs.getD a.toNat 0 + Fs.getD b.toNat 0 + δ →
        FI n k (d + 1) (acc ++ [joinT k (matF k unitF) (acc.getD a.toNat ([], [])) (acc.getD b.toNat ([], []))]) (sets ++ [S]) (ch + δ) (used ++ [a.toNat, b.toNat]) (Fs ++ [F]) := by
      intro S F δ r hF
      refine ⟨by simp; omega, by simp; omega, by simp; omega, by simp [I.lu]; omega, ?_, ?_, ?_, ?_⟩
      · rw [List.nodup_append]
        refine ⟨I.nodup, by simp [hne], fun x hx y hy e => ?_⟩
        subst e
        simp only [List.mem_cons, List.not_mem_nil, or_false] at hy
        rcases hy with rfl | rfl
        · exact hua hx
        · exact hub hx
      · intro x hx
        rcases List.mem_append.1 hx with hx | hx
        · have := I.lt x hx; omega
        · simp only [List.mem_cons, List.not_mem_nil, or_false] at hx
          rcases hx with rfl | rfl <;> omega
      · intro i hi
        rw [getD_snoc, getD_snoc, getD_snoc, hl1, hl2, hl3]
        by_cases h : i < n + d
        · rw [if_pos h, if_pos h, if_pos h]; exact I.fr i h
        · rw [if_neg h, if_neg h, if_neg h, if_pos (by omega), if_pos (by omega), if_pos (by omega)]; exact r
      · have := I.sum
        rw [List.map_append, List.sum_append, map_getD_snoc _ _ _ (fun i hi => by rw [hl3]; exact I.lt i hi), List.sum_append]
        simp only [List.map_cons, List.map_nil, List.sum_cons, List.sum_nil, getD_snoc]
        rw [if_pos (by omega), if_pos (by omega)]
        omega
    have hu : (used ++ [a.toNat, b.toNat]).map Int.ofNat = used.map Int.ofNat ++ [a, b] := by
      rw [List.map_append]
      simp only [List.map_cons, List.map_nil]
      rw [show Int.ofNat a.toNat = a from Int.toNat_of_nonneg a0, show Int.ofNat b.toNat = b from Int.toNat_of_nonneg b0]
    have hlast : n + (d + 1) - 1 ∉ used ++ [a.toNat, b.toNat] := by
      intro h
      rcases List.mem_append.1 h with h | h
      · have := I.lt _ h; omega
      · simp only [List.mem_cons, List.not_mem_nil, or_false] at h
        rcases h with h | h <;> omega
    have hd : d + (l.length + 1) = d + 1 + l.length := by omega
    rw [fitchN, nodesT, List.length_cons, hd]
    by_cases h0 : sets.getD a.toNat 0 &&& sets.getD b.toNat 0 = 0
    · rw [if_pos h0]
      exact fitch_run hn hk l (d + 1) _ _ _ _ _ A2 (key _ _ 1 (j0 h0) rfl) (by rw [hu]; exact hj) (.inr hlast)
    · rw [if_neg h0]
      exact fitch_run hn hk l (d + 1) _ _ _ _ _ A2 (key _ _ 0 (j1 h0) rfl) (by rw [hu]; exact hj) (.inr hlast)

/-- The sets of the leaves. -/
def bitsOf (l : List Int) : List Nat := l.map fun s => 1 <<< s.toNat

/-- Fitch's number of changes is the least cost; his set of the root is that of the states with it. -/
theorem fitch_least {n k : Nat} (hn : n ≤ 8) (hk : 1 ≤ k ∧ k ≤ 4) {js : List (Int × Int)} (ht : treeB n js = true) {l : List Int} (hl : statesB n k l = true) :
    (answer k (matF k unitF) l js).1 = ((fitchN (bitsOf l) 0 js).2 : Int) ∧ (fitchN (bitsOf l) 0 js).1.length = n + js.length ∧ (fitchN (bitsOf l) 0 js).2 ≤ 2100 ∧
      ∃ R, (tabs k (matF k unitF) l js).getLast? = some R ∧ Fine k R ∧ ∀ s, s < k → (R.1.getD s 0 = ((fitchN (bitsOf l) 0 js).2 : Int) ↔ ((fitchN (bitsOf l) 0 js).1.getD (n + js.length - 1) 0).testBit s = true) := by
  have hs : (l.length : Int) = n ∧ ∀ s ∈ l, 0 ≤ s ∧ s < k := by simpa [statesB, List.all_eq_true] using hl
  have hll : l.length = n := by omega
  have A := start_at (costs := matF k unitF) hl ht
  have htj := ht
  simp only [treeB, Bool.and_eq_true, decide_eq_true_eq] at htj
  have I0 : FI n k 0 (l.map (leafT k)) (bitsOf l) 0 [] (List.replicate n 0) := by
    refine ⟨by simp [hll], by simp [bitsOf, hll], by simp, rfl, by simp, by simp, fun i hi => ?_, by simp⟩
    have hi' : i < l.length := by omega
    have e1 : (l.map (leafT k)).getD i ([], []) = leafT k l[i] := by simp [List.getD, hi']
    have e2 : (bitsOf l).getD i 0 = 1 <<< l[i].toNat := by simp [bitsOf, List.getD, hi']
    have e3 : (List.replicate n 0).getD i 0 = 0 := by simp [List.getD, show i < n by omega]
    have hb := hs.2 _ (List.getElem_mem hi')
    rw [e1, e2, e3]
    have := leaf_fr (k := k) (l := l[i].toNat) (by omega)
    rwa [Int.toNat_of_nonneg hb.1] at this
  obtain ⟨used, Fs, I, hlast⟩ := fitch_run hn hk js 0 _ _ _ _ _ A I0 htj.2 (.inl rfl)
  rw [Nat.zero_add] at I hlast
  obtain ⟨R, r1, fR, pR, eR⟩ := root_of hn (costsB_of hk (unit_bd k)) (matF_length k unitF) hl ht
  have hjl : js.length + 1 = n := by omega
  have hlast' : n + js.length - 1 ∉ used := by rcases hlast with h | h; omega; exact h
  have hsum := sum_all (fun i => Fs.getD i 0) ((n + js.length - 1) :: used) (List.range Fs.length) (List.nodup_cons.2 ⟨hlast', I.nodup⟩) (fun x hx => by
    rw [List.mem_range, I.l3]
    rcases List.mem_cons.1 hx with rfl | hx
    · omega
    · exact I.lt x hx) (by simp [I.lu, I.l3]; omega)
  rw [sum_range] at hsum
  simp only [List.map_cons, List.sum_cons] at hsum
  have hF : Fs.getD (n + js.length - 1) 0 = (fitchN (bitsOf l) 0 js).2 := by have := I.sum; omega
  have fr := I.fr (n + js.length - 1) (by omega)
  rw [hF] at fr
  have hR : (nodesT k (matF k unitF) (l.map (leafT k)) js).getD (n + js.length - 1) ([], []) = R := by
    unfold tabs at r1
    rw [List.getLast?_eq_getElem?, I.l1] at r1
    rw [List.getD_eq_getElem?_getD, r1]; rfl
  rw [hR] at fr
  have lc := least_char fR pR
  have hans : (answer k (matF k unitF) l js).1 = ((fitchN (bitsOf l) 0 js).2 : Int) := by
    rw [eR]
    obtain ⟨s, h1, h2⟩ := lc.2
    obtain ⟨s0, h3, h4⟩ := fr.one
    have h5 := (fr.eq s0 h3 (pR s0 h3)).2 h4
    have h6 := lc.1 s0 h3
    have h7 := fr.ge s h1 (pR s h1)
    omega
  have hbd := answer_bound hn (costsB_of hk (unit_bd k)) (matF_length k unitF) hl ht
  exact ⟨hans, I.l2, by omega, R, r1, fR, fun s hs => fr.eq s hs (pR s hs)⟩

/-- All sets are small. -/
theorem fitch_small : ∀ (js : List (Int × Int)) (acc : List Nat) (ch : Nat), (∀ x ∈ acc, x < 16) → ∀ x ∈ (fitchN acc ch js).1, x < 16
  | [], acc, ch, h => h
  | (a, b) :: l, acc, ch, h => by
    have g : ∀ i, acc.getD i 0 < 16 := fun i => by
      by_cases hi : i < acc.length
      · rw [List.getD_eq_getElem?_getD, List.getElem?_eq_getElem hi]; exact h _ (List.getElem_mem hi)
      · rw [List.getD_eq_getElem?_getD, List.getElem?_eq_none (by omega)]; decide
    rw [fitchN]
    split
    · refine fitch_small l _ _ (fun x hx => ?_)
      rcases List.mem_append.1 hx with hx | hx
      · exact h x hx
      · simp only [List.mem_singleton] at hx
        rw [hx]; exact Nat.or_lt_two_pow (n := 4) (g _) (g _)
    · refine fitch_small l _ _ (fun x hx => ?_)
      rcases List.mem_append.1 hx with hx | hx
      · exact h x hx
      · simp only [List.mem_singleton] at hx
        rw [hx]; exact Nat.and_lt_two_pow (n := 4) _ (g _)

end Go.AM.TP
