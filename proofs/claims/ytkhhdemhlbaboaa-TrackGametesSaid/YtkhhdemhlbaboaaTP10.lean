/- Small parsimony, in plain lists: the best of all trees. -/
import Derived.Test.YtkhhdemhlbaboaaTP9
set_option linter.unusedVariables false
set_option linter.unusedSimpArgs false
namespace Go.AM.TP

/-! ### Lengths -/
def colN (t : List (List Int)) (c : Nat) : List Int := t.map fun r => r.getD c 0
/-- The length of a tree for the first columns. -/
def lenN (t : List (List Int)) (js : List (Int × Int)) : Nat → Nat
  | 0 => 0
  | c + 1 => lenN t js c + (fitchN (bitsOf (colN t c)) 0 js).2

/-- Joins whose two may have been exchanged. -/
inductive Sw : List (Int × Int) → List (Int × Int) → Prop
  | nil : Sw [] []
  | same {a b : Int} {l r : List (Int × Int)} (h : Sw l r) : Sw ((a, b) :: l) ((a, b) :: r)
  | turn {a b : Int} {l r : List (Int × Int)} (h : Sw l r) : Sw ((a, b) :: l) ((b, a) :: r)
theorem Sw.refl : ∀ l : List (Int × Int), Sw l l
  | [] => .nil
  | (a, b) :: l => .same (Sw.refl l)
theorem Sw.mid (a b : Int) : ∀ (l r : List (Int × Int)), Sw (l ++ (a, b) :: r) (l ++ (b, a) :: r)
  | [], r => .turn (Sw.refl r)
  | (c, d) :: l, r => .same (Sw.mid a b l r)
theorem fitchN_sw {l r : List (Int × Int)} (h : Sw l r) : ∀ (acc : List Nat) (ch : Nat), fitchN acc ch l = fitchN acc ch r := by
  induction h with
  | nil => intro acc ch; rfl
  | same h ih =>
    intro acc ch
    rw [fitchN, fitchN]
    split
    · exact ih _ _
    · exact ih _ _
  | turn h ih =>
    intro acc ch
    rw [fitchN, fitchN, Nat.and_comm, Nat.or_comm]
    split
    · exact ih _ _
    · exact ih _ _
theorem lenN_sw {l r : List (Int × Int)} (h : Sw l r) (t : List (List Int)) : ∀ m, lenN t l m = lenN t r m
  | 0 => rfl
  | m + 1 => by rw [lenN, lenN, lenN_sw h t m, fitchN_sw h]

/-! ### A search over pairs -/
abbrev Res := Int × List (Int × Int)
def upd2 (s r : Res) : Res := if s.1 < 0 ∨ r.1 < s.1 then r else s
def scanI (g : Nat → Nat → Res) (i : Nat) (s : Res) : Nat → Res
  | 0 => s
  | d + 1 => upd2 (scanI g i s d) (g i (i + 1 + d))
def scanO (g : Nat → Nat → Res) (L : Nat) : Nat → Res
  | 0 => (-1, [])
  | i + 1 => scanI g i (scanO g L i) (L - (i + 1))

/-- What was found among some pairs. -/
def Found (g : Nat → Nat → Res) (S : Nat → Nat → Prop) (s : Res) : Prop := (s.1 < 0 ∧ ∀ i j, ¬ S i j) ∨ ((∃ i j, S i j ∧ s = g i j) ∧ 0 ≤ s.1 ∧ ∀ i j, S i j → s.1 ≤ (g i j).1)
theorem Found.step {g : Nat → Nat → Res} {S : Nat → Nat → Prop} {s : Res} (h : Found g S s) {i j : Nat} (h0 : 0 ≤ (g i j).1) : Found g (fun a b => S a b ∨ (a = i ∧ b = j)) (upd2 s (g i j)) := by
  unfold upd2
  rcases h with ⟨h1, h2⟩ | ⟨⟨a, b, h1, h2⟩, h3, h4⟩
  · rw [if_pos (.inl h1)]
    exact .inr ⟨⟨i, j, .inr ⟨rfl, rfl⟩, rfl⟩, h0, fun a b h => by rcases h with h | ⟨rfl, rfl⟩; exact absurd h (h2 a b); exact Int.le_refl _⟩
  · by_cases d : (g i j).1 < s.1
    · rw [if_pos (.inr d)]
      exact .inr ⟨⟨i, j, .inr ⟨rfl, rfl⟩, rfl⟩, h0, fun a b h => by rcases h with h | ⟨rfl, rfl⟩; have := h4 a b h; omega; exact Int.le_refl _⟩
    · rw [if_neg (by omega)]
      exact .inr ⟨⟨a, b, .inl h1, h2⟩, h3, fun a b h => by rcases h with h | ⟨rfl, rfl⟩; exact h4 a b h; omega⟩
theorem Found.congr {g : Nat → Nat → Res} {S S' : Nat → Nat → Prop} {s : Res} (h : Found g S s) (e : ∀ i j, S i j ↔ S' i j) : Found g S' s := by
  rcases h with ⟨h1, h2⟩ | ⟨⟨a, b, h1, h2⟩, h3, h4⟩
  · exact .inl ⟨h1, fun i j h => h2 i j ((e i j).2 h)⟩
  · exact .inr ⟨⟨a, b, (e a b).1 h1, h2⟩, h3, fun i j h => h4 i j ((e i j).2 h)⟩
theorem scanI_found {g : Nat → Nat → Res} {L i : Nat} {S : Nat → Nat → Prop} {s : Res} (h : Found g S s) (h0 : ∀ i j, i < j → j < L → 0 ≤ (g i j).1) : ∀ d, i + 1 + d ≤ L → Found g (fun a b => S a b ∨ (a = i ∧ i < b ∧ b < i + 1 + d)) (scanI g i s d)
  | 0, _ => h.congr (fun a b => ⟨fun h => .inl h, fun h => by rcases h with h | h; exact h; omega⟩)
  | d + 1, hd => ((scanI_found h h0 d (by omega)).step (h0 i (i + 1 + d) (by omega) (by omega))).congr (fun a b => by
      constructor
      · rintro ((h | h) | h)
        · exact .inl h
        · exact .inr (by omega)
        · exact .inr (by omega)
      · rintro (h | h)
        · exact .inl (.inl h)
        · by_cases e : b = i + 1 + d
          · exact .inr ⟨h.1, e⟩
          · exact .inl (.inr (by omega)))
theorem scanO_found {g : Nat → Nat → Res} {L : Nat} (h0 : ∀ i j, i < j → j < L → 0 ≤ (g i j).1) : ∀ i, i ≤ L → Found g (fun a b => a < i ∧ a < b ∧ b < L) (scanO g L i)
  | 0, _ => .inl ⟨by show (-1 : Int) < 0; decide, fun a b h => by omega⟩
  | i + 1, hi => (scanI_found (scanO_found h0 i (by omega)) h0 (L - (i + 1)) (by omega)).congr (fun a b => by
      constructor
      · rintro (h | h) <;> omega
      · intro h
        by_cases e : a = i
        · exact .inr (by omega)
        · exact .inl (by omega))

/-! ### The best tree -/
def bestT (f : List (Int × Int) → Int) (n : Nat) : Nat → List (Int × Int) → List Int → Res
  | 0, js, _ => (f js, js)
  | m + 1, js, op => scanO (fun i j => bestT f n m (js ++ [(op.getD i 0, op.getD j 0)]) (restN op i j op.length ++ [((n + (js.length + 1) - 1 : Nat) : Int)])) op.length op.length

/-- All trees, in order. -/
def treesN (n : Nat) : Nat → List (Int × Int) → List Int → List (List (Int × Int))
  | 0, js, _ => [js]
  | m + 1, js, op => (List.range op.length).flatMap fun i => (List.range op.length).flatMap fun j => if i < j then treesN n m (js ++ [(op.getD i 0, op.getD j 0)]) (restN op i j op.length ++ [((n + (js.length + 1) - 1 : Nat) : Int)]) else []

/-- The roots are all that is not joined. -/
structure MC (n : Nat) (js : List (Int × Int)) (op : List Int) : Prop where
  mi : MI n js op
  cov : ∀ x : Int, 0 ≤ x → x < ((n + js.length : Nat) : Int) → x ∉ flat js → x ∈ op

theorem MC.start (n : Nat) : MC n [] (upto n) := ⟨MI.start n, fun x h0 h1 _ => by
  unfold upto
  exact List.mem_map.2 ⟨x.toNat, by simp at h1 ⊢; omega, Int.toNat_of_nonneg h0⟩⟩

theorem restN_all (l : List Int) (a c : Nat) : ∀ (m i : Nat), i < m → i ≠ a → i ≠ c → l.getD i 0 ∈ restN l a c m
  | 0, i, h, _, _ => by omega
  | m + 1, i, h, h1, h2 => by
    rw [restN]
    by_cases e : i = m
    · subst e; rw [if_pos ⟨h1, h2⟩]; simp
    · have := restN_all l a c m i (by omega) h1 h2
      split
      · exact List.mem_append.2 (.inl this)
      · exact this

theorem MC.step {n : Nat} {js : List (Int × Int)} {op : List Int} (M : MC n js op) {a c : Nat} (ha : a < op.length) (hc : c < op.length) (hne : a ≠ c) :
    MC n (js ++ [(op.getD a 0, op.getD c 0)]) (restN op a c op.length ++ [((n + (js.length + 1) - 1 : Nat) : Int)]) := by
  refine ⟨M.mi.step ha hc hne, fun x h0 h1 h2 => ?_⟩
  simp only [List.length_append, List.length_singleton] at h1
  rw [flat_app] at h2
  simp only [flat_cons, List.mem_append, List.mem_cons, not_or] at h2
  by_cases e : x = ((n + (js.length + 1) - 1 : Nat) : Int)
  · exact List.mem_append.2 (.inr (by simp [e]))
  · have hx := M.cov x h0 (by omega) h2.1
    obtain ⟨i, hi, rfl⟩ := List.mem_iff_getElem.1 hx
    rw [← getD_el hi] at h2 ⊢
    refine List.mem_append.2 (.inl (restN_all op a c op.length i hi (fun e => h2.2.1 (by rw [e])) (fun e => h2.2.2.1 (by rw [e]))))
where getD_el {l : List Int} {i : Nat} (h : i < l.length) : l.getD i 0 = l[i] := by rw [List.getD_eq_getElem?_getD, List.getElem?_eq_getElem h]; rfl

theorem joinsOk_turn {n : Int} {js ext : List (Int × Int)} {a b : Int} (h : joinsOk n 0 [] (js ++ (a, b) :: ext) = true) : joinsOk n 0 [] (js ++ (b, a) :: ext) = true := by
  rw [joinsOk_iff, Bnds_app, Bnds] at h ⊢
  obtain ⟨⟨h1, h2, h3, h4⟩, _, h6⟩ := h
  refine ⟨⟨h1, h3, h2, h4⟩, by simp, ?_⟩
  have p : (flat (js ++ (b, a) :: ext)).Perm (flat (js ++ (a, b) :: ext)) := by
    rw [flat_app, flat_app, flat_cons, flat_cons]
    exact (List.Perm.swap a b _).append_left _
  exact p.nodup_iff.2 h6

theorem bestT_ok {f : List (Int × Int) → Int} (f0 : ∀ js, 0 ≤ f js) (fs : ∀ l r, Sw l r → f l = f r) {n : Nat} (hn : 2 ≤ n ∧ n ≤ 8) : ∀ (m : Nat) (js : List (Int × Int)) (op : List Int), MC n js op → op.length = m + 1 →
    (treeB n (bestT f n m js op).2 = true ∧ (bestT f n m js op).1 = f (bestT f n m js op).2 ∧ (bestT f n m js op).2 ∈ treesN n m js op) ∧ ∀ ext, joinsOk n 0 [] (js ++ ext) = true → (js ++ ext).length + 1 = n → (bestT f n m js op).1 ≤ f (js ++ ext)
  | 0, js, op, M, hl => by
    refine ⟨⟨M.mi.tree hn hl, rfl, by simp [treesN, bestT]⟩, fun ext _ h => ?_⟩
    have := M.mi.size
    have : ext = [] := List.length_eq_zero_iff.1 (by simp at h; omega)
    subst this
    rw [List.append_nil]
    exact Int.le_refl _
  | m + 1, js, op, M, hl => by
    have ih := fun i j (hi : i < op.length) (hj : j < op.length) (hne : i ≠ j) => bestT_ok f0 fs hn m _ _ (M.step hi hj hne) (by
      have := restN_length op hne op.length
      rw [if_pos hi, if_pos hj] at this
      simp only [List.length_append, List.length_singleton]; omega)
    have F := scanO_found (g := fun i j => bestT f n m (js ++ [(op.getD i 0, op.getD j 0)]) (restN op i j op.length ++ [((n + (js.length + 1) - 1 : Nat) : Int)])) (L := op.length) (fun i j h1 h2 => by
      rw [(ih i j (by omega) h2 (by omega)).1.2.1]; exact f0 _) op.length (Nat.le_refl _)
    rw [← bestT] at F
    rcases F with ⟨_, h2⟩ | ⟨⟨i, j, ⟨h1, h2, h3⟩, e⟩, _, hmin⟩
    · exact absurd (show 0 < op.length ∧ 0 < 1 ∧ 1 < op.length by omega) (h2 0 1)
    · refine ⟨?_, fun ext hok hlen => ?_⟩
      · rw [e]
        obtain ⟨c1, c2, c3⟩ := (ih i j h1 h3 (by omega)).1
        refine ⟨c1, c2, ?_⟩
        rw [treesN]
        refine List.mem_flatMap.2 ⟨i, List.mem_range.2 h1, List.mem_flatMap.2 ⟨j, List.mem_range.2 h3, ?_⟩⟩
        rw [if_pos h2]; exact c3
      · match ext with
        | [] =>
          have := M.mi.size
          rw [List.append_nil] at hlen
          omega
        | (a, b) :: ext =>
          have hok' := hok
          rw [joinsOk_iff, Bnds_app, Bnds] at hok'
          obtain ⟨⟨_, ⟨a0, a1⟩, ⟨b0, b1⟩, _⟩, _, nd⟩ := hok'
          rw [flat_app, flat_cons, List.nodup_append] at nd
          obtain ⟨_, nd2, dis⟩ := nd
          have hna : a ∉ flat js := fun h => dis a h a (by simp) rfl
          have hnb : b ∉ flat js := fun h => dis b h b (by simp) rfl
          have hab : a ≠ b := fun e => by
            have := List.nodup_cons.1 nd2
            exact this.1 (by rw [e]; simp)
          obtain ⟨p, hp, ea⟩ := List.mem_iff_getElem.1 (M.cov a a0 (by omega) hna)
          obtain ⟨q, hq, eb⟩ := List.mem_iff_getElem.1 (M.cov b b0 (by omega) hnb)
          have ea' : op.getD p 0 = a := by rw [List.getD_eq_getElem?_getD, List.getElem?_eq_getElem hp]; exact ea
          have eb' : op.getD q 0 = b := by rw [List.getD_eq_getElem?_getD, List.getElem?_eq_getElem hq]; exact eb
          have hpq : p ≠ q := fun e => hab (by rw [← ea', ← eb', e])
          rcases Nat.lt_or_ge p q with hlt | hge
          · have h1 := hmin p q ⟨hp, hlt, hq⟩
            have h2 := (ih p q hp hq hpq).2 ext (by rw [ea', eb', List.append_assoc]; exact hok) (by rw [List.append_assoc]; simpa using hlen)
            rw [ea', eb', List.append_assoc] at h2
            simp only [ea', eb'] at h1
            exact Int.le_trans h1 h2
          · have h1 := hmin q p ⟨hq, by omega, hp⟩
            have h2 := (ih q p hq hp (fun e => hpq e.symm)).2 ext (by rw [ea', eb', List.append_assoc]; exact joinsOk_turn hok) (by rw [List.append_assoc]; simpa using hlen)
            rw [ea', eb', List.append_assoc] at h2
            simp only [ea', eb'] at h1
            have h3 := fs _ _ (Sw.mid a b js ext)
            show _ ≤ f (js ++ (a, b) :: ext)
            rw [h3]
            exact Int.le_trans h1 h2

/-- The least of all trees. -/
def IsBest (n : Nat) (f : List (Int × Int) → Int) (v : Int) : Prop := (∃ js, treeB n js = true ∧ v = f js) ∧ ∀ js, treeB n js = true → v ≤ f js
theorem IsBest.eq {n : Nat} {f : List (Int × Int) → Int} {v w : Int} (h : IsBest n f v) (k : IsBest n f w) : v = w := by
  obtain ⟨⟨a, a1, rfl⟩, a2⟩ := h
  obtain ⟨⟨b, b1, rfl⟩, b2⟩ := k
  exact Int.le_antisymm (a2 b b1) (b2 a a1)

theorem bestT_best {f : List (Int × Int) → Int} (f0 : ∀ js, 0 ≤ f js) (fs : ∀ l r, Sw l r → f l = f r) {n : Nat} (hn : 2 ≤ n ∧ n ≤ 8) : IsBest n f (bestT f n (n - 1) [] (upto n)).1 ∧ treeB n (bestT f n (n - 1) [] (upto n)).2 = true ∧ (bestT f n (n - 1) [] (upto n)).1 = f (bestT f n (n - 1) [] (upto n)).2 ∧ (bestT f n (n - 1) [] (upto n)).2 ∈ treesN n (n - 1) [] (upto n) := by
  obtain ⟨⟨h1, h2, h3⟩, h4⟩ := bestT_ok f0 fs hn (n - 1) [] (upto n) (MC.start n) (by simp [upto]; omega)
  refine ⟨⟨⟨_, h1, h2⟩, fun js hj => ?_⟩, h1, h2, h3⟩
  simp only [treeB, Bool.and_eq_true, decide_eq_true_eq] at hj
  exact h4 js hj.2 (by simp; omega)

end Go.AM.TP
