/- Small parsimony, in plain lists: the root is moved. -/
import Derived.Test.YtkhhdemhlbaboaaTP2
import Derived.Test.YtkhhdemhlbaboaaTP3
import Derived.Test.YtkhhdemhlbaboaaTP4
set_option linter.unusedVariables false
set_option linter.unusedSimpArgs false
namespace Go.AM.TP

/-! ### Valid trees -/
def Bnds (n : Int) : Nat → List (Int × Int) → Prop
  | _, [] => True
  | k, (a, b) :: l => (0 ≤ a ∧ a < n + k) ∧ (0 ≤ b ∧ b < n + k) ∧ Bnds n (k + 1) l

theorem flat_cons (a b : Int) (l : List (Int × Int)) : flat ((a, b) :: l) = a :: b :: flat l := rfl
theorem flat_app (l r : List (Int × Int)) : flat (l ++ r) = flat l ++ flat r := by simp [flat]

theorem joinsOk_iff (n : Int) : ∀ (js : List (Int × Int)) (k : Nat) (used : List Int), joinsOk n k used js = true ↔ Bnds n k js ∧ (∀ x ∈ flat js, x ∉ used) ∧ (flat js).Nodup
  | [], k, used => by simp [joinsOk, Bnds, flat]
  | (a, b) :: l, k, used => by
    rw [joinsOk, Bnds, flat_cons]
    simp only [Bool.and_eq_true, decide_eq_true_eq, joinsOk_iff n l (k + 1) (used ++ [a, b])]
    simp only [List.mem_cons, List.nodup_cons, List.mem_append, List.not_mem_nil, or_false, not_or, forall_eq_or_imp]
    constructor
    · rintro ⟨⟨⟨a1, a2, a3⟩, b1, b2, b3, b4⟩, c1, c2, c3⟩
      refine ⟨⟨⟨a1, a2⟩, ⟨b1, b2⟩, c1⟩, ⟨a3, b3, fun x hx => (c2 x hx).1⟩, ⟨fun e => b4 e.symm, fun h => (c2 a h).2.1 rfl⟩, fun h => (c2 b h).2.2 rfl, c3⟩
    · rintro ⟨⟨⟨a1, a2⟩, ⟨b1, b2⟩, c1⟩, ⟨a3, b3, c2⟩, ⟨d1, d2⟩, d3, d4⟩
      refine ⟨⟨⟨a1, a2, a3⟩, b1, b2, b3, fun e => d1 e.symm⟩, c1, fun x hx => ⟨c2 x hx, fun e => d2 (e ▸ hx), fun e => d3 (e ▸ hx)⟩, d4⟩

theorem Bnds_app (n : Int) : ∀ (l r : List (Int × Int)) (k : Nat), Bnds n k (l ++ r) ↔ Bnds n k l ∧ Bnds n (k + l.length) r
  | [], r, k => by simp [Bnds]
  | (a, b) :: l, r, k => by
    rw [List.cons_append, Bnds, Bnds, Bnds_app n l r (k + 1), List.length_cons, show k + 1 + l.length = k + (l.length + 1) by omega]
    constructor
    · rintro ⟨h1, h2, h3, h4⟩; exact ⟨⟨h1, h2, h3⟩, h4⟩
    · rintro ⟨⟨h1, h2, h3⟩, h4⟩; exact ⟨h1, h2, h3, h4⟩
theorem Bnds_flat {n : Int} : ∀ {l : List (Int × Int)} {k : Nat}, Bnds n k l → ∀ x ∈ flat l, 0 ≤ x ∧ x < n + k + l.length
  | [], k, _, x, hx => by simp [flat] at hx
  | (a, b) :: l, k, h, x, hx => by
    rw [flat_cons] at hx
    have ih := Bnds_flat h.2.2 x
    simp only [List.mem_cons, List.length_cons] at hx ⊢
    rcases hx with rfl | rfl | hx
    · have := h.1; omega
    · have := h.2.1; omega
    · have := ih hx; omega

/-! ### Names, one node being left out -/
def nm (I v : Int) : Int := if I < v then v - 1 else v
def nm2 (I : Int) (p : Int × Int) : Int × Int := (nm I p.1, nm I p.2)
theorem nm_lt {I v N : Int} (h : v < N + 1) (hne : v ≠ I) (hI : I ≤ N) : nm I v < N := by unfold nm; split <;> omega
theorem nm_nonneg {I v : Int} (h : 0 ≤ v) (hI : 0 ≤ I) : 0 ≤ nm I v := by unfold nm; split <;> omega
theorem nm_inj {I v w : Int} (h1 : v ≠ I) (h2 : w ≠ I) (e : nm I v = nm I w) : v = w := by unfold nm at e; split at e <;> split at e <;> omega
theorem flat_nm (I : Int) (l : List (Int × Int)) : flat (l.map (nm2 I)) = (flat l).map (nm I) := by
  induction l with
  | nil => rfl
  | cons p l ih => obtain ⟨a, b⟩ := p; simp only [List.map_cons, flat_cons, nm2, ih]
theorem map_nm_id {I : Int} {l : List (Int × Int)} (h : ∀ x ∈ flat l, x < I) : l.map (nm2 I) = l := by
  induction l with
  | nil => rfl
  | cons p l ih =>
    obtain ⟨a, b⟩ := p
    rw [flat_cons] at h
    have ha := h a (by simp)
    have hb := h b (by simp)
    rw [List.map_cons, ih (fun x hx => h x (by simp [hx]))]
    simp only [nm2, nm]
    rw [if_neg (by omega), if_neg (by omega)]
theorem Bnds_nm {n I : Int} (h0 : 0 ≤ I) : ∀ {l : List (Int × Int)} {k : Nat}, Bnds n (k + 1) l → (∀ x ∈ flat l, x ≠ I) → I ≤ n + k → Bnds n k (l.map (nm2 I))
  | [], k, _, _, _ => trivial
  | (a, b) :: l, k, h, hx, hI => by
    rw [flat_cons] at hx
    have ha := h.1
    have hb := h.2.1
    rw [List.map_cons]
    refine ⟨⟨nm_nonneg ha.1 h0, nm_lt (by omega) (hx a (by simp)) hI⟩, ⟨nm_nonneg hb.1 h0, nm_lt (by omega) (hx b (by simp)) hI⟩, Bnds_nm h0 h.2.2 (fun x h => hx x (by simp [h])) (by omega)⟩

/-- The moved tree. -/
def movedJ (N : Int) (I : Int) (pre post : List (Int × Int)) (pA pB o : Int) : List (Int × Int) := pre.map (nm2 I) ++ post.map (nm2 I) ++ [(nm I pB, nm I o), (nm I pA, N)]

theorem nodup_map_nm {I : Int} {l : List Int} (h : l.Nodup) (hne : I ∉ l) : (l.map (nm I)).Nodup := by
  unfold List.Nodup at *
  rw [List.pairwise_map]
  exact List.Pairwise.imp_of_mem (fun {a b} ha hb hab e => hab (nm_inj (I := I) (fun e : a = I => hne (e ▸ ha)) (fun e : b = I => hne (e ▸ hb)) e)) h

theorem moved_tree {n : Nat} {pre post : List (Int × Int)} {pA pB rA rB o : Int} (ht : treeB n (pre ++ (pA, pB) :: post ++ [(rA, rB)]) = true) (hr : (rA = ((n + pre.length : Nat) : Int) ∧ rB = o) ∨ (rB = ((n + pre.length : Nat) : Int) ∧ rA = o)) :
    treeB n (movedJ ((n + pre.length + post.length : Nat) : Int) ((n + pre.length : Nat) : Int) pre post pA pB o) = true ∧ (∀ x ∈ flat pre, x < ((n + pre.length : Nat) : Int)) ∧ (∀ x ∈ flat post, 0 ≤ x ∧ x ≠ ((n + pre.length : Nat) : Int)) ∧
      (0 ≤ pA ∧ pA < ((n + pre.length : Nat) : Int)) ∧ (0 ≤ pB ∧ pB < ((n + pre.length : Nat) : Int)) ∧ 0 ≤ o ∧ o < ((n + pre.length + 1 + post.length : Nat) : Int) ∧ o ≠ ((n + pre.length : Nat) : Int) := by
  generalize hI : ((n + pre.length : Nat) : Int) = I at *
  simp only [treeB, Bool.and_eq_true, decide_eq_true_eq, List.length_append, List.length_cons, List.length_nil] at ht
  obtain ⟨⟨hn2, hn8, hlen⟩, hj⟩ := ht
  rw [joinsOk_iff, Bnds_app, Bnds_app] at hj
  obtain ⟨⟨⟨b1, b2⟩, b3⟩, _, nd⟩ := hj
  rw [Bnds] at b2
  obtain ⟨p1, p2, b4⟩ := b2
  rw [Bnds] at b3
  obtain ⟨r1, r2, _⟩ := b3
  simp only [List.length_append, List.length_cons, Nat.zero_add] at p1 p2 r1 r2 b4
  rw [flat_app, flat_app, flat_cons, flat_cons] at nd
  have fpre : ∀ x ∈ flat pre, 0 ≤ x ∧ x < I := fun x hx => by have := Bnds_flat b1 x hx; omega
  have fpost : ∀ x ∈ flat post, 0 ≤ x ∧ x < I + 1 + post.length := fun x hx => by have := Bnds_flat b4 x hx; omega
  have perm : (flat pre ++ flat post ++ [pB, o, pA] ++ [I]).Perm (flat pre ++ pA :: pB :: flat post ++ (rA :: rB :: flat [])) := by
    rw [List.perm_iff_count]
    intro a
    rcases hr with ⟨rfl, rfl⟩ | ⟨rfl, rfl⟩ <;> simp only [List.count_append, List.count_cons, List.count_nil, flat, List.flatMap_nil] <;> omega
  have nd2 := perm.nodup_iff.2 nd
  rw [List.nodup_append] at nd2
  obtain ⟨nd3, _, hdis⟩ := nd2
  have hI' : I ∉ flat pre ++ flat post ++ [pB, o, pA] := fun h => hdis I h I (by simp) rfl
  have ho : 0 ≤ o ∧ o < I + 1 + post.length := by rcases hr with ⟨h1, h2⟩ | ⟨h1, h2⟩ <;> omega
  have hne : ∀ x, x ∈ flat pre ∨ x ∈ flat post ∨ x = pB ∨ x = o ∨ x = pA → x ≠ I := by
    intro x hx e
    refine hI' ?_
    rw [← e]
    simp only [List.mem_append, List.mem_cons, List.not_mem_nil, or_false]
    rcases hx with h | h | h | h | h
    · exact .inl (.inl h)
    · exact .inl (.inr h)
    · exact .inr (.inl h)
    · exact .inr (.inr (.inl h))
    · exact .inr (.inr (.inr h))
  have h0 : 0 ≤ I := by omega
  refine ⟨?_, fun x hx => (fpre x hx).2, fun x hx => ⟨(fpost x hx).1, hne x (.inr (.inl hx))⟩, by omega, by omega, ho.1, by omega, hne o (by simp)⟩
  have hid : pre.map (nm2 I) = pre := map_nm_id (fun x hx => (fpre x hx).2)
  have hl : pre.length + post.length + 2 = pre.length + (post.length + 1) + (0 + 1) := by omega
  simp only [treeB, movedJ, Bool.and_eq_true, decide_eq_true_eq, List.length_append, List.length_cons, List.length_nil, List.length_map]
  refine ⟨⟨hn2, hn8, by omega⟩, ?_⟩
  rw [joinsOk_iff]
  have e1 : flat (pre.map (nm2 I) ++ post.map (nm2 I) ++ [(nm I pB, nm I o), (nm I pA, ((n + pre.length + post.length : Nat) : Int))]) = (flat pre ++ flat post ++ [pB, o, pA]).map (nm I) ++ [((n + pre.length + post.length : Nat) : Int)] := by
    simp only [flat_app, flat_nm, List.map_append, List.map_cons, List.map_nil]
    simp [flat]
  refine ⟨?_, by simp, ?_⟩
  · rw [Bnds_app, Bnds_app]
    refine ⟨⟨by rw [hid]; exact b1, Bnds_nm h0 (by rw [List.length_map, Nat.zero_add]; exact b4) (fun x hx => hne x (.inr (.inl hx))) (by rw [List.length_map]; omega)⟩, ?_⟩
    simp only [Bnds, List.length_append, List.length_map, Nat.zero_add, and_true]
    refine ⟨⟨nm_nonneg (by omega) h0, nm_lt (by omega) (hne _ (by simp)) (by omega)⟩, ⟨nm_nonneg ho.1 h0, nm_lt (by omega) (hne _ (by simp)) (by omega)⟩, ⟨nm_nonneg (by omega) h0, ?_⟩, by omega, by omega⟩
    have := nm_lt (I := I) (v := pA) (N := n + ((pre.length + post.length : Nat) : Int)) (by omega) (hne _ (by simp)) (by omega)
    omega
  · rw [e1, List.nodup_append]
    refine ⟨nodup_map_nm nd3 hI', by simp, fun x hx y hy e => ?_⟩
    obtain ⟨z, hz, rfl⟩ := List.mem_map.1 hx
    simp only [List.mem_singleton] at hy
    have hz0 : z < I + 1 + post.length := by
      simp only [List.mem_append, List.mem_cons, List.not_mem_nil, or_false] at hz
      rcases hz with (h | h) | rfl | rfl | rfl
      · have := fpre z h; omega
      · exact (fpost z h).2
      · omega
      · exact ho.2
      · omega
    have := nm_lt (I := I) (v := z) (N := I + post.length) (by omega) (fun e => hI' (e ▸ hz)) (by omega)
    omega

/-! ### Tables -/
theorem nodesT_old (k : Nat) (C : List (List Int)) : ∀ (js : List (Int × Int)) (acc : List Tab) (i : Nat), i < acc.length → (nodesT k C acc js).getD i ([], []) = acc.getD i ([], [])
  | [], acc, i, h => rfl
  | (a, b) :: l, acc, i, h => by
    rw [nodesT, nodesT_old k C l _ i (by simp; omega), getD_snoc, if_pos h]

theorem getD_erase {acc : List Tab} {I : Nat} {v : Int} (h0 : 0 ≤ v) (hne : v ≠ (I : Int)) : (acc.eraseIdx I).getD (nm I v).toNat ([], []) = acc.getD v.toNat ([], []) := by
  simp only [List.getD_eq_getElem?_getD, List.getElem?_eraseIdx]
  unfold nm
  by_cases h : (I : Int) < v
  · rw [if_pos h, if_neg (by omega)]
    congr 2; omega
  · rw [if_neg h, if_pos (by omega)]

theorem nodesT_skip (k : Nat) (C : List (List Int)) {I : Nat} : ∀ (js : List (Int × Int)) (acc : List Tab), I < acc.length → (∀ x ∈ flat js, 0 ≤ x ∧ x ≠ (I : Int)) → nodesT k C (acc.eraseIdx I) (js.map (nm2 I)) = (nodesT k C acc js).eraseIdx I
  | [], acc, _, _ => rfl
  | (a, b) :: l, acc, hI, h => by
    rw [flat_cons] at h
    have ha := h a (by simp)
    have hb := h b (by simp)
    rw [List.map_cons, nm2, nodesT, nodesT, getD_erase ha.1 ha.2, getD_erase hb.1 hb.2, ← nodesT_skip k C l _ (by simp; omega) (fun x hx => h x (by simp [hx]))]
    congr 1
    rw [List.eraseIdx_append_of_lt_length hI]

/-- The tables at the roots of both trees. -/
theorem moved_tables {n k : Nat} {C : List (List Int)} {acc : List Tab} (hacc : acc.length = n) {pre post : List (Int × Int)} {pA pB o : Int} (hpre : ∀ x ∈ flat pre, x < ((n + pre.length : Nat) : Int)) (hpost : ∀ x ∈ flat post, 0 ≤ x ∧ x ≠ ((n + pre.length : Nat) : Int))
    (h1 : 0 ≤ pA ∧ pA < ((n + pre.length : Nat) : Int)) (h2 : 0 ≤ pB ∧ pB < ((n + pre.length : Nat) : Int)) (h3 : 0 ≤ o) (h4 : o < ((n + pre.length + 1 + post.length : Nat) : Int)) (h5 : o ≠ ((n + pre.length : Nat) : Int)) :
    let ts1 := nodesT k C acc pre
    let TI := joinT k C (ts1.getD pA.toNat ([], [])) (ts1.getD pB.toNat ([], []))
    let ts2 := nodesT k C (ts1 ++ [TI]) post
    ts2.getD (n + pre.length) ([], []) = TI ∧ ts2.getD pA.toNat ([], []) = ts1.getD pA.toNat ([], []) ∧ ts2.getD pB.toNat ([], []) = ts1.getD pB.toNat ([], []) ∧ ts2.length = n + pre.length + 1 + post.length ∧
      (nodesT k C acc (pre.map (nm2 ((n + pre.length : Nat) : Int)) ++ post.map (nm2 ((n + pre.length : Nat) : Int))) = ts2.eraseIdx (n + pre.length) ∧ (ts2.eraseIdx (n + pre.length)).length = n + pre.length + post.length ∧ (ts2.eraseIdx (n + pre.length)).getD (nm ((n + pre.length : Nat) : Int) pB).toNat ([], []) = ts1.getD pB.toNat ([], []) ∧ (ts2.eraseIdx (n + pre.length)).getD (nm ((n + pre.length : Nat) : Int) o).toNat ([], []) = ts2.getD o.toNat ([], [])) ∧
      nodesT k C acc (movedJ ((n + pre.length + post.length : Nat) : Int) ((n + pre.length : Nat) : Int) pre post pA pB o) =
        ts2.eraseIdx (n + pre.length) ++ [joinT k C (ts1.getD pB.toNat ([], [])) (ts2.getD o.toNat ([], []))] ++ [joinT k C (ts1.getD pA.toNat ([], [])) (joinT k C (ts1.getD pB.toNat ([], [])) (ts2.getD o.toNat ([], [])))] := by
  intro ts1 TI ts2
  have l1 : ts1.length = n + pre.length := by rw [nodesT_length, hacc]
  have l2 : ts2.length = n + pre.length + 1 + post.length := by rw [nodesT_length]; simp [l1]
  have o1 : ∀ i, i < n + pre.length → ts2.getD i ([], []) = ts1.getD i ([], []) := fun i hi => by
    show (nodesT k C (ts1 ++ [TI]) post).getD i ([], []) = _
    rw [nodesT_old k C post _ i (by simp [l1]; omega), getD_snoc, if_pos (by omega)]
  have o2 : ts2.getD (n + pre.length) ([], []) = TI := by
    show (nodesT k C (ts1 ++ [TI]) post).getD (n + pre.length) ([], []) = _
    rw [nodesT_old k C post _ _ (by simp [l1]), getD_snoc, if_neg (by omega), if_pos (by omega)]
  have hid : pre.map (nm2 ((n + pre.length : Nat) : Int)) = pre := map_nm_id hpre
  have e0 : (ts1 ++ [TI]).eraseIdx (n + pre.length) = ts1 := by
    rw [List.eraseIdx_append_of_length_le (by omega), l1, Nat.sub_self]; simp
  have hsk : nodesT k C ts1 (post.map (nm2 ((n + pre.length : Nat) : Int))) = ts2.eraseIdx (n + pre.length) := by
    have := nodesT_skip k C (I := n + pre.length) post (ts1 ++ [TI]) (by simp [l1]) hpost
    rw [e0] at this
    exact this
  have l3 : (ts2.eraseIdx (n + pre.length)).length = n + pre.length + post.length := by rw [List.length_eraseIdx_of_lt (by omega), l2]; omega
  have gA : (ts2.eraseIdx (n + pre.length)).getD (nm ((n + pre.length : Nat) : Int) pA).toNat ([], []) = ts1.getD pA.toNat ([], []) := by rw [getD_erase h1.1 (by omega), o1 _ (by omega)]
  have gB : (ts2.eraseIdx (n + pre.length)).getD (nm ((n + pre.length : Nat) : Int) pB).toNat ([], []) = ts1.getD pB.toNat ([], []) := by rw [getD_erase h2.1 (by omega), o1 _ (by omega)]
  have gO : (ts2.eraseIdx (n + pre.length)).getD (nm ((n + pre.length : Nat) : Int) o).toNat ([], []) = ts2.getD o.toNat ([], []) := getD_erase h3 h5
  have hA : (nm ((n + pre.length : Nat) : Int) pA).toNat < n + pre.length + post.length := by unfold nm; split <;> omega
  refine ⟨o2, o1 _ (by omega), o1 _ (by omega), l2, ⟨by rw [nodesT_app, hid]; exact hsk, l3, gB, gO⟩, ?_⟩
  unfold movedJ
  rw [nodesT_app, nodesT_app, hid]
  show nodesT k C (nodesT k C ts1 _) _ = _
  rw [hsk, nodesT, nodesT, nodesT, gB, gO, getD_snoc, getD_snoc, if_pos (by omega), gA, if_neg (by omega), if_pos (by omega)]

end Go.AM.TP
