/- The abstract machine, part 10: the orders of a region, ended. -/
import Derived.Test.YtkhhdemhlbaboaaAM9
set_option linter.unusedVariables false
set_option linter.unusedSimpArgs false
namespace Go.AM

section
variable {P : Program} {ng N : Nat} {C : CallP} {ops : Array Oper} {its : List It} {ρs : Nat → (Nat → Value)} {hs : Nat → Heap} {vs : Nat → Value} {R : Reg P ng N C ops its ρs hs vs} {w0 : World} {G0 : Gh} {h00 : Heap} {w00 : World} {G : Gh} {q : Nat} {listed : Array Bool} {a : Act} {w : World}

theorem DInv.newSlots (I : DInv R w0 G0 h00 w00 G q listed a w) {j : Nat} {x : It} (J : Now ops its listed j x) {G' : Gh} {q' : Nat} {v' : Value} (hv : VRel (G'.below (hs (max (j + 1) q')).next) (vs j) v')
    (hm : ∀ m, m ≤ its.length → (G.below (hs (max m q)).next).le (G'.below (hs (max m q')).next)) :
    ∀ t, VRel (G'.below (hs (max (wrK its (exAt its (listed.setIfInBounds x.idx true)) its.length t) q')).next) (valK its (exAt its (listed.setIfInBounds x.idx true)) vs (ρs 0) its.length t) ((a.put x.ao.dst v').tmps.getD t undef) := by
  intro t
  obtain ⟨e1, e2⟩ := I.writes J t
  rw [e1, e2]
  have hspec := cOper_spec (R.it j x J.at_).2
  have hd : dstOk N x.ao.dst = true := by rw [hspec.2.2.2.2.1]; exact hspec.1
  by_cases h : x.ao.dst = some t
  · rw [if_pos h, if_pos h, h]
    rw [h] at hd
    simp only [dstOk, decide_eq_true_eq] at hd
    have : (a.put (some t) v').tmps.getD t undef = v' := by simp [Act.put, I.size, hd]
    rw [this]; exact hv
  · rw [if_neg h, if_neg h]
    have : (a.put x.ao.dst v').tmps.getD t undef = a.tmps.getD t undef := by
      cases hdx : x.ao.dst with
      | none => rfl
      | some d =>
        have hne : d ≠ t := fun e => h (by rw [hdx, e])
        simp [Act.put, hne]
    rw [this]
    exact (I.slots t).mono (hm _ (wrK_le _ _ _ _))

theorem DInv.qle (I : DInv R w0 G0 h00 w00 G q listed a w) {m : Nat} (hm : m ≤ its.length) : max m q ≤ its.length := by have := I.q_le; omega

/-- What neither makes nor changes memory. -/
theorem DInv.quiet (I : DInv R w0 G0 h00 w00 G q listed a w) {j : Nat} {x : It} (J : Now ops its listed j x) (hE : isE x.ao.op = false) (hA : isA x.ao.op = false ∨ want (ρs j) x.ao.guard = false) {v' : Value}
    (hv : VRel (G.below (hs (max (j + 1) q)).next) (vs j) v') : DInv R w0 G0 h00 w00 G q (listed.setIfInBounds x.idx true) (a.put x.ao.dst v') w := by
  have hex := ex_set (R := R) I.len J.at_
  have notj : ∀ (k : Nat) (y : It), its[k]? = some y → isA y.ao.op = true → want (ρs k) y.ao.guard = true → k ≠ j := fun k y hy ha hw e => by
    subst e
    rw [J.at_] at hy; simp only [Option.some.injEq] at hy; subst hy
    rcases hA with h | h
    · rw [h] at ha; cases ha
    · rw [h] at hw; cases hw
  refine ⟨closed_set I J, by simpa using I.len, I.q_le, fun k y hy he => ?_, I.q_last, I.heap, I.grown, fun k y h1 hy ha hx hw => ?_, fun k k' y y' c h1 h2 hy hy' ha ha' hx hx' hw hw' e e' => ?_, fun b z hb hz => ?_,
    I.newSlots J hv (fun m _ => Gh.le_refl _), by rw [Act.put_size]; exact I.size, by rw [Act.put_def]; exact I.defers, I.step, I.w00, I.base⟩
  · have hkj : k ≠ j := fun e => by
      subst e
      rw [J.at_] at hy; simp only [Option.some.injEq] at hy; subst hy
      rw [hE] at he; cases he
    rw [hex, if_neg hkj]; exact I.q_e k y hy he
  · rw [hex, if_neg (notj k y hy ha hw)] at hx
    exact I.early k y h1 hy ha hx hw
  · rw [hex, if_neg (notj k y hy ha hw)] at hx
    rw [hex, if_neg (notj k' y' hy' ha' hw')] at hx'
    exact I.apart k k' y y' c h1 h2 hy hy' ha ha' hx hx' hw hw' e e'
  · obtain ⟨k, y, g1, g2, g3, g4, g5, g6⟩ := I.dom b z hb hz
    exact ⟨k, y, g1, g2, g3, by rw [hex]; split <;> simp [g4], g5, g6⟩

theorem Reg.lt_next (R : Reg P ng N C ops its ρs hs vs) {k : Nat} {x : It} (hk : its[k]? = some x) (hA : isA x.ao.op = true) (hw : want (ρs k) x.ao.guard = true) {m : Nat} (hm : m ≤ its.length) (hkm : k < m) : (hs k).next < (hs m).next := by
  have hop : ∃ q, x.ao.op = .a q := by
    cases h : x.ao.op <;> rw [h] at hA <;> first | exact ⟨_, rfl⟩ | (simp [isA] at hA)
  obtain ⟨q, hq⟩ := hop
  obtain ⟨cs, f, _, _, e⟩ := R.newAt hk hq hw
  have h1 : (hs (k + 1)).next = (hs k).next + 1 := by rw [e]; rfl
  have h2 := (R.grows hm (k := k + 1) (by omega)).next
  omega

theorem DInv.fresh (I : DInv R w0 G0 h00 w00 G q listed a w) {m : Nat} (hm : m ≤ its.length) (H : HRel (G.below (hs m).next) (hs m) w) : Fresh (G.below (hs m).next) (hs m) := by
  refine ⟨?_, fun b hb => ⟨by unfold Gh.below; rw [if_neg (by omega)], R.wfAt hm b hb⟩⟩
  by_cases h : (hs m).base ≤ (hs m).next
  · exact h
  · exfalso
    obtain ⟨y, hy⟩ := H.low (hs m).next (by omega)
    unfold Gh.below at hy
    rw [if_neg (by omega)] at hy; cases hy

/-- New memory. -/
theorem DInv.makes (I : DInv R w0 G0 h00 w00 G q listed a w) {j : Nat} {x : It} (J : Now ops its listed j x) {p : AlOp} (hp : x.ao.op = .a p) (hw : want (ρs j) x.ao.guard = true) :
    ∃ v' Cc T G', (execOp a.eval x.op).run P w = .ok (.value v') (w.alloc (.cells Cc T)) ∧ DInv R w0 G0 h00 w00 G' q (listed.setIfInBounds x.idx true) (a.put x.ao.dst v') (w.alloc (.cells Cc T)) := by
  have hjn : j < its.length := (List.getElem?_eq_some_iff.1 J.at_).1
  have hex := ex_set (R := R) I.len J.at_
  have hia : isA x.ao.op = true := by rw [hp]; rfl
  have hie : isE x.ao.op = false := by rw [hp]; rfl
  -- it is not behind the last effect
  have hqj : q ≤ j := by
    rcases Nat.lt_or_ge j q with h | h
    · exfalso
      obtain ⟨q', rfl⟩ : ∃ q', q = q' + 1 := ⟨q - 1, by omega⟩
      obtain ⟨y, hy, hye⟩ := I.q_last q' rfl
      have hne : j ≠ q' := fun e => by
        subst e; rw [J.at_] at hy; simp only [Option.some.injEq] at hy; subst hy; rw [hie] at hye; cases hye
      have hm := pair_must (R.pair j q' x y (by omega) J.at_ hy) (.inr (.inl (by simp [hia, hye])))
      have := I.unex J.at_ hy J.no hm
      have h2 := (I.q_e q' y hy hye).2 (by omega)
      rw [this] at h2; cases h2
    · exact h
  obtain ⟨cs, f, e1, e2, e3⟩ := R.newAt J.at_ hp hw
  have hspec := cOper_spec (R.it j x J.at_).2
  have hE := I.operands J
  rw [show max j q = j by omega] at hE
  have hca := hspec.2.2.2.1
  rw [hp] at hca
  obtain ⟨Cc, T, f', g1, g2, g3⟩ := al_sound (P := P) (cOp_a hca) hE e1
  have hGn : G (hs j).next = none := by
    cases h : G (hs j).next with
    | none => rfl
    | some z =>
      exfalso
      obtain ⟨k, y, k1, k2, k3, k4, k5, k6⟩ := I.dom _ z (R.grows (m := j) (k := q) (by omega) hqj).next h
      have hkn : k < its.length := (List.getElem?_eq_some_iff.1 k2).1
      rcases Nat.lt_trichotomy k j with h1 | h1 | h1
      · have := R.lt_next k2 k3 k5 (m := j) (by omega) h1; omega
      · subst h1; rw [J.no] at k4; cases k4
      · have := R.lt_next J.at_ hia hw (m := k) (by omega) h1; omega
  have hle : G.le (G.set (hs j).next (w.heap.size, 0)) := Gh.le_set hGn
  have hbel : ∀ n, n ≤ (hs j).next → (G.set (hs j).next (w.heap.size, 0)).below n = G.below n := fun n hn => by
    funext b
    unfold Gh.below Gh.set
    by_cases hb : b < n
    · rw [if_pos hb, if_pos hb, if_neg (by omega)]
    · rw [if_neg hb, if_neg hb]
  have hqn : (hs q).next ≤ (hs j).next := (R.grows (m := j) (k := q) (by omega) hqj).next
  have hmono : ∀ n, (G.below n).le ((G.set (hs j).next (w.heap.size, 0)).below n) := fun n => Gh.below_mono (fun b y _ hy => hle _ _ hy)
  refine ⟨f' w.heap.size, Cc, T, G.set (hs j).next (w.heap.size, 0), g3 w, closed_set I J, by simpa using I.len, I.q_le, fun k y hy he => ?_, I.q_last, by rw [hbel _ hqn]; exact I.heap.more _, by have := I.grown; simp; omega,
    fun k y h1 hy ha hx hwk => ?_, fun k k' y y' c h1 h2 hy hy' ha ha' hx hx' hwk hwk' e e' => ?_, fun b z hb hz => ?_,
    I.newSlots J ?_ (fun m _ => hmono _), by rw [Act.put_size]; exact I.size, by rw [Act.put_def]; exact I.defers, by rw [hbel _ hqn]; exact I.step.trans (Step.more _ _ _ _), I.w00, I.base⟩
  · have hkj : k ≠ j := fun e => by
      subst e
      rw [J.at_] at hy; simp only [Option.some.injEq] at hy; subst hy
      rw [hie] at he; cases he
    rw [hex, if_neg hkj]; exact I.q_e k y hy he
  · by_cases hkj : k = j
    · subst hkj
      refine ⟨w.heap.size, Cc, T, cs, by simp [Gh.set], heap_alloc_new, e3, by rw [hbel _ (Nat.le_refl _)]; exact g1, I.grown, ?_⟩
      rw [hbel _ hqn]
      intro hm
      obtain ⟨b, k1, m1, m2, m3⟩ := hm
      obtain ⟨z, hz⟩ := Option.isSome_iff_exists.1 m2
      obtain ⟨c', k', C', T', n1, n2, n3, _⟩ := I.heap.own b z m1 hz
      rw [m3] at n1; simp only [Option.some.injEq, Prod.mk.injEq] at n1
      have := lt_of_heap n3
      omega
    · rw [hex, if_neg hkj] at hx
      obtain ⟨c, C', T', cs', b1, b2, b3, b4, b5, b6⟩ := I.early k y h1 hy ha hx hwk
      exact ⟨c, C', T', cs', hle _ _ b1, by rw [heap_alloc_old (lt_of_heap b2)]; exact b2, b3, b4.mono (hmono _), b5, by rw [hbel _ hqn]; exact b6⟩
  · have old : ∀ (k : Nat) (y : It), q ≤ k → its[k]? = some y → isA y.ao.op = true → exAt its listed k = true → want (ρs k) y.ao.guard = true → ∀ c, (G.set (hs j).next (w.heap.size, 0)) (hs k).next = some (c, 0) → c < w.heap.size ∧ G (hs k).next = some (c, 0) := by
      intro k y hk hy ha hx hwk c e
      obtain ⟨c', C', T', cs', b1, b2, _⟩ := I.early k y hk hy ha hx hwk
      have := hle _ _ b1
      rw [e] at this; simp only [Option.some.injEq, Prod.mk.injEq, and_true] at this
      subst this
      exact ⟨lt_of_heap b2, b1⟩
    have new : ∀ c, (G.set (hs j).next (w.heap.size, 0)) (hs j).next = some (c, 0) → c = w.heap.size := by
      intro c e; simp [Gh.set] at e; exact e.symm
    by_cases hkj : k = j <;> by_cases hkj' : k' = j
    · rw [hkj, hkj']
    · exfalso
      rw [hex, if_neg hkj'] at hx'
      have := (old k' y' h2 hy' ha' hx' hwk' c e').1
      rw [hkj] at e
      have := new c e
      omega
    · exfalso
      rw [hex, if_neg hkj] at hx
      have := (old k y h1 hy ha hx hwk c e).1
      rw [hkj'] at e'
      have := new c e'
      omega
    · rw [hex, if_neg hkj] at hx
      rw [hex, if_neg hkj'] at hx'
      exact I.apart k k' y y' c h1 h2 hy hy' ha ha' hx hx' hwk hwk' (old k y h1 hy ha hx hwk c e).2 (old k' y' h2 hy' ha' hx' hwk' c e').2
  · by_cases hbj : b = (hs j).next
    · exact ⟨j, x, hqj, J.at_, hia, by rw [hex, if_pos rfl], hw, hbj⟩
    · have hz' : G b = some z := by simpa [Gh.set, hbj] using hz
      obtain ⟨k, y, b1, b2, b3, b4, b5, b6⟩ := I.dom b z hb hz'
      exact ⟨k, y, b1, b2, b3, by rw [hex]; split <;> simp [b4], b5, b6⟩
  · rw [e2, show max (j + 1) q = j + 1 by omega]
    refine g2 _ (hs j).next w.heap.size 0 ?_
    unfold Gh.below
    rw [if_pos (by rw [e3]; simp [Heap.alloc])]
    simp [Gh.set]

/-- An effect, or one that is left out. -/
theorem DInv.acts (I : DInv R w0 G0 h00 w00 G q listed a w) {j : Nat} {x : It} (J : Now ops its listed j x) (hE : isE x.ao.op = true) :
    q ≤ j ∧ HRel (G.below (hs j).next) (hs j) w ∧ Fresh (G.below (hs j).next) (hs j) ∧ ∀ G1 v' w', VRel G1 (vs j) v' → HRel G1 (hs (j + 1)) w' → Fresh G1 (hs (j + 1)) → Step (G.below (hs j).next) (hs j) w G1 (hs (j + 1)) w' →
      DInv R w0 G0 h00 w00 (fun b => if b < (hs (j + 1)).next then G1 b else G b) (j + 1) (listed.setIfInBounds x.idx true) (a.put x.ao.dst v') w' := by
  have hjn : j < its.length := (List.getElem?_eq_some_iff.1 J.at_).1
  have hex := ex_set (R := R) I.len J.at_
  have hqj : q ≤ j := by
    rcases Nat.lt_or_ge j q with h | h
    · have := (I.q_e j x J.at_ hE).2 h
      rw [J.no] at this; cases this
    · exact h
  have hall : ∀ (k : Nat) (y : It), q ≤ k → k < j → its[k]? = some y → isE y.ao.op = false ∧ (isA y.ao.op = true → exAt its listed k = true) := by
    intro k y h1 h2 hy
    refine ⟨?_, fun ha => I.pred J hy (by omega) (pair_must (R.pair k j y x h2 hy J.at_) (.inr (.inl (by simp [ha, hE]))))⟩
    cases he : isE y.ao.op with
    | false => rfl
    | true =>
      have := I.pred J hy (by omega) (pair_must (R.pair k j y x h2 hy J.at_) (.inl (by simp [he, hE])))
      have := (I.q_e k y hy he).1 this
      omega
  obtain ⟨a1, a2, a3⟩ := I.adv j hqj (by omega) hall
  have hF := I.fresh (m := j) (by omega) a1
  refine ⟨hqj, a1, hF, fun G1 v' w' hv H1 F1 S1 => ?_⟩
  have hn1 : (hs j).next ≤ (hs (j + 1)).next := S1.next
  have hbelow : (Gh.below (fun b => if b < (hs (j + 1)).next then G1 b else G b) (hs (j + 1)).next) = G1 := by
    funext b
    unfold Gh.below
    by_cases hb : b < (hs (j + 1)).next
    · rw [if_pos hb]; exact if_pos hb
    · rw [if_neg hb, (F1.free b (by omega)).1]
  have lift : ∀ (k : Nat) , j + 1 ≤ k → k ≤ its.length → ∀ b y, b < (hs k).next → G b = some y → (fun b => if b < (hs (j + 1)).next then G1 b else G b) b = some y := by
    intro k hk hkn b y hb hy
    simp only
    split
    · rename_i hb1
      by_cases hb2 : b < (hs j).next
      · exact S1.le b y (by unfold Gh.below; rw [if_pos hb2]; exact hy)
      · exfalso
        have hqn := (R.grows (m := j) (k := q) (by omega) hqj).next
        obtain ⟨k', y', b1, b3, b4, b5, b6, b7⟩ := I.dom b y (by omega) hy
        have hk'n : k' < its.length := (List.getElem?_eq_some_iff.1 b3).1
        rcases Nat.lt_trichotomy k' j with h1 | h1 | h1
        · have := R.lt_next b3 b4 b6 (m := j) (by omega) h1; omega
        · subst h1; rw [J.no] at b5; cases b5
        · have := (R.grows (m := k') (k := j + 1) (by omega) (by omega)).next; omega
    · exact hy
  have notMine : ∀ (k : Nat) (y : It), j + 1 ≤ k → its[k]? = some y → isA y.ao.op = true → exAt its listed k = true → want (ρs k) y.ao.guard = true → ∀ c, G (hs k).next = some (c, 0) → ¬ Mine (G.below (hs q).next) (hs q) c → ¬ Mine (G.below (hs j).next) (hs j) c := by
    intro k y hk hy ha hx hwk c e hnm hm
    rcases a3 c hm with h | ⟨k', y', b1, b2, b3, b4, b5, b6, b7⟩
    · exact hnm h
    · have := I.apart k k' y y' c (by omega) b1 hy b3 ha b4 hx b5 hwk b6 e b7
      omega
  have later : ∀ (k : Nat), j + 1 ≤ k → k ≤ its.length → (fun b => if b < (hs (j + 1)).next then G1 b else G b) (hs k).next = G (hs k).next := by
    intro k hk hkn
    have := (R.grows (m := k) (k := j + 1) hkn hk).next
    simp only
    rw [if_neg (by omega)]
  refine ⟨closed_set I J, by simpa using I.len, by omega, fun k y hy he => ?_, fun k hk => ?_, by rw [hbelow]; exact H1, Nat.le_trans I.grown S1.size,
    fun k y h1 hy ha hx hwk => ?_, fun k k' y y' c h1 h2 hy hy' ha ha' hx hx' hwk hwk' e e' => ?_, fun b z hb hz => ?_,
    I.newSlots J ?_ (fun m hm => ?_), by rw [Act.put_size]; exact I.size, by rw [Act.put_def]; exact I.defers, by rw [hbelow]; exact a2.trans S1, I.w00, I.base⟩
  · rw [hex]
    by_cases hkj : k = j
    · subst hkj; simp
    · rw [if_neg hkj]
      rcases Nat.lt_or_gt_of_ne hkj with h | h
      · have := I.pred J hy hkj (pair_must (R.pair k j y x h hy J.at_) (.inl (by simp [he, hE])))
        simp [this]; omega
      · have := I.unex J.at_ hy J.no (pair_must (R.pair j k x y h J.at_ hy) (.inl (by simp [he, hE])))
        simp [this]; omega
  · have : k = j := by omega
    subst this; exact ⟨x, J.at_, hE⟩
  · have hkn : k < its.length := (List.getElem?_eq_some_iff.1 hy).1
    rw [hex, if_neg (by omega)] at hx
    obtain ⟨c, C', T', cs', b1, b2, b3, b4, b5, b6⟩ := I.early k y (by omega) hy ha hx hwk
    have hnm := notMine k y h1 hy ha hx hwk c b1 b6
    refine ⟨c, C', T', cs', (later k h1 (by omega)).trans b1, by rw [S1.keeps c (lt_of_heap b2) hnm]; exact b2, b3, b4.mono (Gh.below_mono (lift k h1 (by omega))), b5, ?_⟩
    rw [hbelow]
    intro hm
    rcases S1.img c hm with h | h
    · exact hnm h
    · have := lt_of_heap b2; omega
  · have hkn : k < its.length := (List.getElem?_eq_some_iff.1 hy).1
    have hkn' : k' < its.length := (List.getElem?_eq_some_iff.1 hy').1
    rw [hex, if_neg (by omega)] at hx hx'
    have e := (later k h1 (by omega)).symm.trans e
    have e' := (later k' h2 (by omega)).symm.trans e'
    exact I.apart k k' y y' c (by omega) (by omega) hy hy' ha ha' hx hx' hwk hwk' e e'
  · have hz : G b = some z := (if_neg (by omega : ¬ b < (hs (j + 1)).next)).symm.trans hz
    have hqn := (R.grows (m := j) (k := q) (by omega) hqj).next
    obtain ⟨k, y, b1, b3, b4, b5, b6, b7⟩ := I.dom b z (by omega) hz
    have hkn : k < its.length := (List.getElem?_eq_some_iff.1 b3).1
    have hk : j + 1 ≤ k := by
      rcases Nat.lt_trichotomy k j with h1 | h1 | h1
      · have := R.lt_next b3 b4 b6 (m := j) (by omega) h1; omega
      · subst h1; rw [J.no] at b5; cases b5
      · omega
    exact ⟨k, y, hk, b3, b4, by rw [hex, if_neg (by omega)]; exact b5, b6, b7⟩
  · rw [Nat.max_self, hbelow]; exact hv
  · by_cases hmj : m ≤ j
    · rw [show max m (j + 1) = j + 1 by omega, hbelow]
      exact Gh.le_trans (Gh.below_le G (R.grows (m := j) (k := max m q) (by omega) (by omega)).next) S1.le
    · rw [show max m q = m by omega, show max m (j + 1) = m by omega]
      exact Gh.below_mono (lift m (by omega) hm)

theorem loadA_eq (h : Heap) (n : Nat) (agg : Bool) (x : Value) : loadA h n agg x = (rdA h x n).bind (whole agg) := by
  unfold loadA rdA
  split
  · split
    · rename_i cs e; simp [e]
    · rename_i e; simp [e]
  · rename_i hx
    split
    · rename_i b o; exact absurd rfl (hx b o)
    · rfl

theorem rdA_alloc {h : Heap} (hw : Wf h) {o : Blk} {x : Value} {n : Nat} {cs : List Value} (hr : rdA h x n = some cs) : rdA (h.alloc o) x n = some cs := by
  unfold rdA at *
  split at hr
  · rename_i b off
    have hb : b ≠ h.next := fun e => by
      subst e
      unfold Heap.read Heap.cells at hr
      rw [hw _ (Nat.le_refl _)] at hr
      simp at hr
    unfold Heap.read Heap.cells at *
    simp only [Heap.alloc, if_neg hb]
    exact hr
  · cases hr

/-- A load that comes up late reads what it would have read. -/
theorem DInv.late (I : DInv R w0 G0 h00 w00 G q listed a w) {j : Nat} {x : It} (J : Now ops its listed j x) {z : Operand} {n : Nat} (hl : isL x.ao.op = some (z, n)) (hjq : j < q) {cs : List Value} (hr : rdA (hs j) (ev (ρs j) z) n = some cs) :
    rdA (hs q) (ev (ρs j) z) n = some cs := by
  have hjn : j < its.length := (List.getElem?_eq_some_iff.1 J.at_).1
  have hxE : isE x.ao.op = false := by cases h : x.ao.op <;> rw [h] at hl <;> simp [isL] at hl <;> rfl
  have hxA : isA x.ao.op = false := by cases h : x.ao.op <;> rw [h] at hl <;> simp [isL] at hl <;> rfl
  have addr : ∀ m, j ≤ m → m ≤ its.length → ev (ρs m) z = ev (ρs j) z := by
    intro m
    induction m with
    | zero => intro h _; have : j = 0 := by omega
              subst this; rfl
    | succ m ih =>
      intro h1 h2
      by_cases he : j = m + 1
      · subst he; rfl
      · have ih := ih (by omega) (by omega)
        have hy : its[m]? = some its[m] := List.getElem?_eq_getElem (by omega)
        rw [← ih, (R.step hy).1]
        cases z with
        | tmp t =>
          simp only [ev]
          apply put_some_ne
          by_cases hmj : m = j
          · have hmx : its[m] = x := by have := J.at_; rw [← hmj, hy] at this; simpa using this
            rw [hmx]
            have := R.self j x J.at_
            unfold selfOk at this
            simp only [hl, Bool.and_eq_true, bne_iff_ne] at this
            exact this.2
          · exact pair_addr (R.pair j m x _ (by omega) J.at_ hy) hl
        | const v => rfl
        | global g => rfl
        | func f => rfl
  have key : ∀ m, j ≤ m → m ≤ q → rdA (hs m) (ev (ρs j) z) n = some cs := by
    intro m
    induction m with
    | zero => intro h _; have : j = 0 := by omega
              subst this; exact hr
    | succ m ih =>
      intro h1 h2
      by_cases he : j = m + 1
      · subst he; exact hr
      · have ih := ih (by omega) (by omega)
        have hqn := I.q_le
        have hy : its[m]? = some its[m] := List.getElem?_eq_getElem (by omega)
        cases hia : isA its[m].ao.op with
        | true =>
          cases hwn : want (ρs m) its[m].ao.guard with
          | false => rw [(R.skipped hy hwn).2]; exact ih
          | true =>
            have hop : ∃ p, its[m].ao.op = .a p := by
              cases h : its[m].ao.op <;> rw [h] at hia <;> first | exact ⟨_, rfl⟩ | (simp [isA] at hia)
            obtain ⟨p, hp⟩ := hop
            obtain ⟨cs', f, _, _, e⟩ := R.newAt hy hp hwn
            rw [e]; exact rdA_alloc (R.wfAt (by omega)) ih
        | false =>
          cases hie : isE its[m].ao.op with
          | false => rw [R.same hy hie hia]; exact ih
          | true =>
            have hmj : j ≠ m := fun e => by
              subst e
              have := J.at_; rw [hy] at this; simp only [Option.some.injEq] at this
              rw [this, hxE] at hie; cases hie
            have hexm : exAt its listed m = true := (I.q_e m _ hy hie).2 (by omega)
            have hmu : must ops x.idx its[m].idx = false := by
              cases h : must ops x.idx its[m].idx with
              | false => rfl
              | true => have := I.unex J.at_ hy J.no h; rw [hexm] at this; cases this
            obtain ⟨_, _, h | h⟩ := R.step hy
            · obtain ⟨_, h⟩ := h
              have hmem : (z, n) ∈ keepOf ops its[m] (its.take m) := keepOf_mem _ x _ (by
                refine List.mem_of_getElem? (i := j) ?_
                rw [List.getElem?_take, if_pos (by omega)]; exact J.at_) hl hmu
              rw [if_pos hie] at h
              have hk : keepOk (hs m) (hs (m + 1)) (ρs m) (keepOf ops its[m] (its.take m)) := by
                cases hop : its[m].ao.op with
                | p p => rw [hop] at hie; simp [isE] at hie
                | l n g x => rw [hop] at hie; simp [isE] at hie
                | a p => rw [hop] at hie; simp [isE] at hie
                | e p =>
                  simp only [wpOp, hop] at h
                  split at h
                  · rename_i v h' e
                    obtain ⟨h1, _, rfl⟩ := h
                    exact h1
                  · exact h.elim
                | c f as =>
                  simp only [wpOp, hop] at h
                  split at h
                  · obtain ⟨v, h', ⟨h1, _, e⟩, _⟩ := R.det _ _ _ _ h
                    rw [e] at h1
                    exact h1
                  · exact h.elim
                | i f t as =>
                  simp only [wpOp, hop] at h
                  split at h
                  · split at h
                    · obtain ⟨v, h', ⟨h1, _, e⟩, _⟩ := R.det _ _ _ _ h
                      rw [e] at h1
                      exact h1
                    · exact h.elim
                  · exact h.elim
              have := keepOk_mem _ (z, n) hk hmem
              simp only at this
              rw [addr m (by omega) (by omega)] at this
              rw [← this]; exact ih
            · rw [h.2.2]; exact ih
  exact key q (by omega) (Nat.le_refl _)

theorem rdA_congr {h h' : Heap} {b o n : Nat} (hb : h'.base = h.base) (hg : h'.get b = h.get b) : rdA h' (.pointer (some ⟨b, o, none⟩)) n = rdA h (.pointer (some ⟨b, o, none⟩)) n := by
  simp only [rdA, Heap.read, Heap.cells, hb, hg]

theorem cL_mem {P : Program} {op : Op} {n : Nat} {g : Bool} {z : Operand} (h : cL P op = some (n, g, z)) : z ∈ op.operands := by
  cases op <;> simp only [cL, reduceCtorEq] at h
  split at h
  · split at h <;> simp only [Option.some.injEq, Prod.mk.injEq] at h <;> simp [Op.operands, h]
  · cases h

theorem DInv.loads (I : DInv R w0 G0 h00 w00 G q listed a w) {j : Nat} {x : It} (J : Now ops its listed j x) {n : Nat} {agg : Bool} {z : Operand} (hop : x.ao.op = .l n agg z) (hw : want (ρs j) x.ao.guard = true) :
    ∃ v', (execOp a.eval x.op).run P w = .ok (.value v') w ∧ VRel (G.below (hs (max (j + 1) q)).next) (vs j) v' := by
  have hjn : j < its.length := (List.getElem?_eq_some_iff.1 J.at_).1
  have hl : isL x.ao.op = some (z, n) := by rw [hop]; rfl
  have hxE : isE x.ao.op = false := by rw [hop]; rfl
  have hxA : isA x.ao.op = false := by rw [hop]; rfl
  have hsame := R.same J.at_ hxE hxA
  have hspec := cOper_spec (R.it j x J.at_).2
  have hcl := hspec.2.2.2.1
  rw [hop] at hcl
  have hE := I.operands J
  have hv : loadA (hs j) n agg (ev (ρs j) z) = some (vs j) := by
    obtain ⟨_, _, h | h⟩ := R.step J.at_
    · obtain ⟨_, h⟩ := h
      simp only [wpOp, hop] at h
      split at h
      · rename_i v e; rw [e, h.1]
      · exact h.elim
    · rw [hw] at h; cases h.1
  have hz : z ∈ x.op.op.operands := cL_mem (cOp_l hcl)
  rw [loadA_eq] at hv
  obtain ⟨cs, hr, hcs⟩ := Option.bind_eq_some_iff.1 hv
  have fin : ∀ (Gx : Gh) (hx : Heap), Gx.le (G.below (hs (max (j + 1) q)).next) → (∀ y ∈ x.op.op.operands, VRel Gx (ev (ρs j) y) (a.eval y)) → HRel Gx hx w → rdA hx (ev (ρs j) z) n = some cs →
      ∃ v', (execOp a.eval x.op).run P w = .ok (.value v') w ∧ VRel (G.below (hs (max (j + 1) q)).next) (vs j) v' := by
    intro Gx hx hle hEx H hrd
    obtain ⟨v', e1, e2⟩ := load_sound (P := P) (cOp_l hcl) hEx H (v := vs j) (by rw [loadA_eq, hrd]; exact hcs)
    exact ⟨v', e2, e1.mono hle⟩
  rcases Nat.lt_or_ge j q with hjq | hqj
  · rw [show max j q = q by omega] at hE
    rw [show max (j + 1) q = q by omega] at fin ⊢
    exact fin (G.below (hs q).next) (hs q) (Gh.le_refl _) hE I.heap (I.late J hl hjq hr)
  · rw [show max j q = j by omega] at hE
    have hqn := (R.grows (m := j) (k := q) (by omega) hqj).next
    have hjj : (G.below (hs j).next).le (G.below (hs (max (j + 1) q)).next) := Gh.below_le G (R.grows (m := max (j + 1) q) (k := j) (by omega) (by omega)).next
    have noE : ∀ (k : Nat) (y : It), q ≤ k → k < j → its[k]? = some y → isE y.ao.op = false := by
      intro k y h1 h2 hy
      cases he : isE y.ao.op with
      | false => rfl
      | true =>
        have := I.pred J hy (by omega) (pair_must (R.pair k j y x h2 hy J.at_) (.inr (.inr (.inl (by simp [he, hl])))))
        have := (I.q_e k y hy he).1 this
        omega
    have old : ∀ m, q ≤ m → m ≤ j → ∀ b, b < (hs q).next → (hs m).get b = (hs q).get b := by
      intro m
      induction m with
      | zero => intro h _ b _; have : q = 0 := by omega
                subst this; rfl
      | succ m ih =>
        intro h1 h2 b hb
        by_cases he : q = m + 1
        · subst he; rfl
        · have ih := ih (by omega) (by omega) b hb
          have hy : its[m]? = some its[m] := List.getElem?_eq_getElem (by omega)
          have hyE := noE m _ (by omega) (by omega) hy
          cases hia : isA its[m].ao.op with
          | false => rw [R.same hy hyE hia]; exact ih
          | true =>
            cases hwn : want (ρs m) its[m].ao.guard with
            | false => rw [(R.skipped hy hwn).2]; exact ih
            | true =>
              have hop : ∃ p, its[m].ao.op = .a p := by
                cases h : its[m].ao.op <;> rw [h] at hia <;> first | exact ⟨_, rfl⟩ | (simp [isA] at hia)
              obtain ⟨p, hp⟩ := hop
              obtain ⟨cs', f, _, _, e⟩ := R.newAt hy hp hwn
              have := (R.grows (m := m) (k := q) (by omega) (by omega)).next
              rw [e]; simp only [Heap.alloc]; rw [if_neg (by omega)]; exact ih
    have kept : ∀ (k : Nat) (y : It), q ≤ k → its[k]? = some y → isA y.ao.op = true → want (ρs k) y.ao.guard = true → ∀ m, k + 1 ≤ m → m ≤ j → (hs m).get (hs k).next = (hs (k + 1)).get (hs k).next := by
      intro k y hk hyk hak hwk m
      induction m with
      | zero => intro h _; omega
      | succ m ih =>
        intro h1 h2
        by_cases he : k = m
        · subst he; rfl
        · have ih := ih (by omega) (by omega)
          have hy : its[m]? = some its[m] := List.getElem?_eq_getElem (by omega)
          have hyE := noE m _ (by omega) (by omega) hy
          cases hia : isA its[m].ao.op with
          | false => rw [R.same hy hyE hia]; exact ih
          | true =>
            cases hwn : want (ρs m) its[m].ao.guard with
            | false => rw [(R.skipped hy hwn).2]; exact ih
            | true =>
              have hop : ∃ p, its[m].ao.op = .a p := by
                cases h : its[m].ao.op <;> rw [h] at hia <;> first | exact ⟨_, rfl⟩ | (simp [isA] at hia)
              obtain ⟨p, hp⟩ := hop
              obtain ⟨cs', f, _, _, e⟩ := R.newAt hy hp hwn
              have := R.lt_next hyk hak hwk (m := m) (by omega) (by omega)
              rw [e]; simp only [Heap.alloc]; rw [if_neg (by omega)]; exact ih
    have hEz := hE z hz
    have hbj := R.baseAt (k := j) (by omega)
    have hbq := R.baseAt (k := q) I.q_le
    generalize hX : ev (ρs j) z = X at *
    unfold rdA at hr
    split at hr
    · rename_i b o
      have hr' : rdA (hs j) (.pointer (some ⟨b, o, none⟩)) n = some cs := hr
      generalize a.eval z = u at hEz
      cases hEz with
      | ptr _ hGb =>
        rename_i c k
        unfold Gh.below at hGb
        split at hGb
        · rename_i hbn
          rcases Nat.lt_or_ge b (hs q).next with hbq' | hbq'
          · refine fin (G.below (hs j).next) (hs q) hjj hE (I.heap.mono (Gh.below_le G hqn)) ?_
            rw [← hr']
            exact rdA_congr (by rw [hbj, hbq]) (old j hqj (Nat.le_refl _) b hbq').symm
          · obtain ⟨k', y, b1, b2, b3, b4, b5, b6⟩ := I.dom b _ hbq' hGb
            have hk'n : k' < its.length := (List.getElem?_eq_some_iff.1 b2).1
            have hk'j : k' < j := by
              rcases Nat.lt_or_ge k' j with h | h
              · exact h
              · have := (R.grows (m := k') (k := j) (by omega) h).next; omega
            obtain ⟨c', C', T', cs', g1, g2, g3, g4, g5, g6⟩ := I.early k' y b1 b2 b3 b4 b5
            have hget : (hs j).get b = some { cells := cs', esz := 0 } := by
              rw [b6, kept k' y b1 b2 b3 b5 j (by omega) (Nat.le_refl _), g3]
              simp [Heap.alloc]
            have hqk := (R.grows (m := k') (k := q) (by omega) b1).next
            have hm1 := I.heap.mono (Gh.below_le G hqk)
            have hnm : ¬ Mine (G.below (hs k').next) (hs q) c' := by
              rintro ⟨b', k1, m1, m2, m3⟩
              obtain ⟨v, hv⟩ := Option.isSome_iff_exists.1 m2
              obtain ⟨c2, k2, _, _, n1, _⟩ := I.heap.own b' v m1 hv
              have := Gh.below_le G hqk _ _ n1
              rw [m3] at this; simp only [Option.some.injEq, Prod.mk.injEq] at this
              exact g6 ⟨b', k2, m1, m2, by rw [n1, this.1]⟩
            have hF := I.fresh (m := q) I.q_le I.heap
            have hGn : G.below (hs k').next (hs k').next = none := by unfold Gh.below; rw [if_neg (by omega)]
            have hidb : (hs q).base ≤ (hs k').next := by have := hF.le; omega
            have hcb : (hs q).base ≤ c' := by have := I.base; omega
            have hadd := hm1.add hidb hGn (o := { cells := cs', esz := 0 }) hcb g2 hnm rfl g4
            rw [← below_alloc g1] at hadd
            have hk1 : (hs k').next + 1 = (hs (k' + 1)).next := by rw [g3]; rfl
            have hk2 := (R.grows (m := j) (k := k' + 1) (by omega) (by omega)).next
            refine fin (G.below (hs j).next) ((hs q).put (hs k').next { cells := cs', esz := 0 }) hjj hE (hadd.mono (Gh.below_le G (by omega))) ?_
            rw [← hr']
            refine rdA_congr (by show (hs q).base = _; rw [hbj, hbq]) ?_
            rw [hget, b6]
            simp [Heap.put]
        · cases hGb
    · cases hr

theorem cOper_keep {o : Oper} {ao : AOper} {keep : List (Operand × Nat)} (h : cOper P ng N ops [] o = some ao) : cOper P ng N ops keep o = some { ao with keep := keep } := by
  unfold cOper at *
  split at h
  · rename_i hc
    rw [if_pos hc]
    split at h
    · rename_i g p e1 e2
      simp only [Option.some.injEq] at h; subst h
      rfl
    · cases h
  · cases h

theorem cnt_pos {ex : Nat → Bool} : ∀ {m j : Nat}, j < m → ex j = false → 0 < cnt ex m
  | 0, j, h, _ => by omega
  | m + 1, j, h, hj => by
    unfold cnt
    by_cases he : j = m
    · subst he; simp [hj]
    · have := cnt_pos (m := m) (j := j) (by omega) hj; omega

theorem cnt_set {ex ex' : Nat → Bool} {j : Nat} (h : ∀ k, ex' k = if k = j then true else ex k) (hj : ex j = false) : ∀ m, cnt ex m = cnt ex' m + if j < m then 1 else 0
  | 0 => by simp [cnt]
  | m + 1 => by
    unfold cnt
    rw [cnt_set h hj m, h m]
    by_cases he : m = j
    · subst he
      simp [hj]
    · rw [if_neg he]
      by_cases h2 : j < m
      · have e1 : (if j < m then 1 else 0 : Nat) = 1 := if_pos h2
        have e2 : (if j < m + 1 then 1 else 0 : Nat) = 1 := if_pos (by omega)
        rw [e1, e2]; omega
      · have e1 : (if j < m then 1 else 0 : Nat) = 0 := if_neg h2
        have e2 : (if j < m + 1 then 1 else 0 : Nat) = 0 := if_neg (by omega)
        rw [e1, e2]; omega

/-- All have come up. -/
theorem DInv.final (I : DInv R w0 G0 h00 w00 G q listed a w) (hall : ∀ k, k < its.length → exAt its listed k = true) : SRel (G.below (hs its.length).next) N (ρs its.length) (hs its.length) a w ∧ Step G0 h00 w00 (G.below (hs its.length).next) (hs its.length) w := by
  have hadv := I.adv its.length I.q_le (Nat.le_refl _) (fun k y h1 h2 hy => by
    refine ⟨?_, fun _ => hall k h2⟩
    cases he : isE y.ao.op with
    | false => rfl
    | true => have := (I.q_e k y hy he).1 (hall k h2); omega)
  obtain ⟨a1, a2, _⟩ := hadv
  have hval : ∀ m, m ≤ its.length → valK its (exAt its listed) vs (ρs 0) m = ρs m := by
    intro m
    induction m with
    | zero => intro _; rfl
    | succ m ih =>
      intro hm
      have hy : its[m]? = some its[m] := List.getElem?_eq_getElem (by omega)
      rw [valK_succ, if_pos (hall m (by omega)), ih (by omega), (R.step hy).1]
      simp [dstAt, hy]
  refine ⟨⟨fun t => ?_, I.size, I.defers, a1, I.fresh (Nat.le_refl _) a1⟩, a2⟩
  have := I.slots t
  rw [hval _ (Nat.le_refl _)] at this
  exact this.mono (Gh.below_le G (R.grows (Nat.le_refl _) (I.qle (wrK_le _ _ _ _))).next)

theorem draw_any (R : Reg P ng N C ops its ρs hs vs) {Q : Post} (hQ : Q .normal (ρs its.length) (hs its.length)) : ∀ (fuel : Nat) (G : Gh) (q : Nat) (listed : Array Bool) (a : Act) (w : World), DInv R w0 G0 h00 w00 G q listed a w → cnt (exAt its listed) its.length ≤ fuel →
    wpAny P .any ops (AfterQ G0 N h00 w00 Q) fuel listed a w := by
  have done : ∀ (G : Gh) (q : Nat) (listed : Array Bool) (a : Act) (w : World), DInv R w0 G0 h00 w00 G q listed a w → (∀ k, k < its.length → exAt its listed k = true) → AfterQ G0 N h00 w00 Q .normal a w := by
    intro G q listed a w I hall
    obtain ⟨s1, s2⟩ := I.final hall
    exact ⟨.normal, _, _, _, hQ, s1, s2, rfl⟩
  have least : ∀ (G : Gh) (q : Nat) (listed : Array Bool) (a : Act) (w : World), DInv R w0 G0 h00 w00 G q listed a w → Region.ready .any ops listed = [] → ∀ k, k < its.length → exAt its listed k = true := by
    intro G q listed a w I hr k
    induction k using Nat.strongRecOn with
    | _ k ih =>
      intro hk
      have hy : its[k]? = some its[k] := List.getElem?_eq_getElem hk
      cases hex : exAt its listed k with
      | true => rfl
      | false =>
        exfalso
        have hop := (R.it k _ hy).1
        have hself := self_edges (R.self k _ hy)
        have hmem : its[k].idx ∈ Region.ready .any ops listed := by
          rw [mem_ready]
          have hlt := (Array.getElem?_eq_some_iff.1 hop).1
          refine ⟨?_, its[k].op, hop, fun e he hb => ?_⟩
          · simp only [exAt, hy] at hex
            have : its[k].idx < listed.size := by rw [I.len]; exact hlt
            simp [this] at hex ⊢
            exact hex
          · obtain ⟨p, y, hp, hyi⟩ := R.all e.on (hself e he hb).2
            rcases Nat.lt_trichotomy p k with h | h | h
            · have := ih p h (List.getElem?_eq_some_iff.1 hp).1
              simp only [exAt, hp, hyi] at this
              exact this
            · subst h
              rw [hy] at hp; simp only [Option.some.injEq] at hp
              rw [← hp] at hyi
              exact absurd hyi.symm (hself e he hb).1
            · exact absurd hyi.symm ((pair_lin (R.pair k p _ y h hy hp)).2 e he hb)
        rw [hr] at hmem; cases hmem
  intro fuel
  induction fuel with
  | zero =>
    intro G q listed a w I hc
    have hall : ∀ k, k < its.length → exAt its listed k = true := fun k hk => by
      cases h : exAt its listed k with
      | true => rfl
      | false => have := cnt_pos hk h; omega
    refine ⟨?_, done G q listed a w I hall⟩
    refine List.eq_nil_iff_forall_not_mem.2 fun i hi => ?_
    obtain ⟨hno, o, ho, _⟩ := mem_ready.1 hi
    obtain ⟨j, x, hx, rfl⟩ := R.all i (Array.getElem?_eq_some_iff.1 ho).1
    have := hall j (List.getElem?_eq_some_iff.1 hx).1
    simp only [exAt, hx] at this
    have hlt : x.idx < listed.size := by rw [I.len]; exact (Array.getElem?_eq_some_iff.1 ho).1
    simp [hlt] at this hno
    rw [this] at hno; cases hno
  | succ fuel ih =>
    intro G q listed a w I hc
    refine ⟨fun hr => done G q listed a w I (least G q listed a w I hr), fun i hi => ?_⟩
    obtain ⟨hno, o, ho, hwaits⟩ := mem_ready.1 hi
    have hlt := (Array.getElem?_eq_some_iff.1 ho).1
    obtain ⟨j, x, hx, rfl⟩ := R.all i hlt
    have hxo := (R.it j x hx).1
    rw [ho] at hxo; simp only [Option.some.injEq] at hxo; subst hxo
    have J : Now ops its listed j x := ⟨hx, by
      have : x.idx < listed.size := by rw [I.len]; exact hlt
      simp only [exAt, hx]
      simp [this] at hno ⊢
      exact hno, hwaits⟩
    have hjn : j < its.length := (List.getElem?_eq_some_iff.1 hx).1
    have hcnt : cnt (exAt its (listed.setIfInBounds x.idx true)) its.length ≤ fuel := by
      have := cnt_set (ex_set (R := R) I.len hx) J.no its.length
      rw [if_pos hjn] at this; omega
    have hspec := cOper_spec (R.it j x hx).2
    have hdst := hspec.2.2.2.2.1
    have hwant : Region.wanted x.op (yielded ops a.tmps) = want (ρs j) x.ao.guard := want_rel1 (G := G.below (hs (max (wrK its (exAt its listed) its.length 0) q)).next |> fun _ => G) hspec.2.2.1 (fun s b hs' => by
      have ht : s ∈ looks x.op x.ao.guard := by unfold looks; rw [hs']; simp
      have h1 := (I.reads J ht).1
      have h2 := I.slots s
      rw [h1] at h2
      exact h2.mono (Gh.below_le' G _))
    have hundef : ∀ G' : Gh, VRel G' undef undef := fun G' => .tuple (c := []) (c' := []) .nil
    have hmj : (G.below (hs (max j q)).next).le (G.below (hs (max (j + 1) q)).next) := Gh.below_le G (R.grows (I.qle (by omega)) (by omega)).next
    unfold Go.wpOp
    simp only [ho, hwant]
    split
    · rename_i hw
      refine .inl ?_
      cases hop : x.ao.op with
      | p p =>
        obtain ⟨_, _, h | h⟩ := R.step hx
        · obtain ⟨_, h⟩ := h
          simp only [wpOp, hop] at h
          split at h
          · rename_i v hv
            obtain ⟨v', e1, e2⟩ := pop_sound (cOp_p (by rw [← hop]; exact hspec.2.2.2.1)) (I.operands J) hv
            unfold Oper.wp
            rw [e2 w, Oper.upon_value, ← hdst]
            rw [h.1] at e1
            exact ih G q _ _ _ (I.quiet J (by rw [hop]; rfl) (.inl (by rw [hop]; rfl)) (e1.mono hmj)) hcnt
          · exact h.elim
        · rw [hw] at h; cases h.1
      | l n agg z =>
        obtain ⟨v', e1, e2⟩ := I.loads J hop hw
        unfold Oper.wp
        rw [e1, Oper.upon_value, ← hdst]
        exact ih G q _ _ _ (I.quiet J (by rw [hop]; rfl) (.inl (by rw [hop]; rfl)) e2) hcnt
      | a p =>
        obtain ⟨v', Cc, T, G', e1, e2⟩ := I.makes J hop hw
        unfold Oper.wp
        rw [e1, Oper.upon_value, ← hdst]
        exact ih G' q _ _ _ e2 hcnt
      | e p =>
        have hE : isE x.ao.op = true := by rw [hop]; rfl
        obtain ⟨hqj, H, F, hnext⟩ := I.acts J hE
        obtain ⟨_, _, h | h⟩ := R.step hx
        · have hops := I.operands J
          rw [show max j q = j by omega] at hops
          have hb := R.baseAt (k := j) (by omega)
          refine (oper_comes R.call (cOper_keep (R.it j x hx).2) hops H F (by have := R.ngb; omega) h.2).wp (fun v' w' hk => ?_) _
          obtain ⟨v, h', G1, ⟨rfl, rfl⟩, f1, f2, f3, f4⟩ := hk
          rw [← hdst]
          exact ih _ _ _ _ _ (hnext G1 v' w' f1 f2 f3 f4) hcnt
        · rw [hw] at h; cases h.1
      | c f as =>
        have hE : isE x.ao.op = true := by rw [hop]; rfl
        obtain ⟨hqj, H, F, hnext⟩ := I.acts J hE
        obtain ⟨_, _, h | h⟩ := R.step hx
        · have hops := I.operands J
          rw [show max j q = j by omega] at hops
          have hb := R.baseAt (k := j) (by omega)
          refine (oper_comes R.call (cOper_keep (R.it j x hx).2) hops H F (by have := R.ngb; omega) h.2).wp (fun v' w' hk => ?_) _
          obtain ⟨v, h', G1, ⟨rfl, rfl⟩, f1, f2, f3, f4⟩ := hk
          rw [← hdst]
          exact ih _ _ _ _ _ (hnext G1 v' w' f1 f2 f3 f4) hcnt
        · rw [hw] at h; cases h.1
      | i f t as =>
        have hE : isE x.ao.op = true := by rw [hop]; rfl
        obtain ⟨hqj, H, F, hnext⟩ := I.acts J hE
        obtain ⟨_, _, h | h⟩ := R.step hx
        · have hops := I.operands J
          rw [show max j q = j by omega] at hops
          have hb := R.baseAt (k := j) (by omega)
          refine (oper_comes R.call (cOper_keep (R.it j x hx).2) hops H F (by have := R.ngb; omega) h.2).wp (fun v' w' hk => ?_) _
          obtain ⟨v, h', G1, ⟨rfl, rfl⟩, f1, f2, f3, f4⟩ := hk
          rw [← hdst]
          exact ih _ _ _ _ _ (hnext G1 v' w' f1 f2 f3 f4) hcnt
        · rw [hw] at h; cases h.1
    · rename_i hw
      have hw : want (ρs j) x.ao.guard = false := by simpa using hw
      obtain ⟨s1, s2⟩ := R.skipped hx hw
      rw [← hdst]
      cases hE : isE x.ao.op with
      | true =>
        obtain ⟨hqj, H, F, hnext⟩ := I.acts J hE
        exact ih _ _ _ _ _ (hnext (G.below (hs j).next) undef w (by rw [s1]; exact hundef _) (by rw [s2]; exact H) (by rw [s2]; exact F) (by rw [s2]; exact .refl _ _ _)) hcnt
      | false => exact ih G q _ _ _ (I.quiet J hE (.inr hw) (by rw [s1]; exact hundef _)) hcnt

end

/-- **A region whose order is open comes to what the walked order comes to.** -/
theorem draw_sound {P : Program} {ng N : Nat} {C : CallP} (hm : P.follows .mixedOrders = true) (hC : CallSound P ng C) (hD : CallDet C) (hM : CallMono C) (order : Nat → List Nat) : DrawSound P ng N C (fun id ops => cDraw P ng N ops (order id)) := by
  intro id ops al hal G0 h0 w0 G ρ h a w S hn s0 Q hw
  simp only at hal
  unfold cDraw at hal
  split at hal
  · rename_i hc
    obtain ⟨hlen, hcov⟩ := hc
    split at hal
    · rename_i its hits
      split at hal
      · rename_i hpairs
        simp only [Option.some.injEq] at hal; subst hal
        obtain ⟨m1, m2⟩ := mkIts_spec _ its hits
        obtain ⟨p1, p2⟩ := pairsOk_spec its hpairs
        obtain ⟨ρs, hs, vs, e1, e2, tr, hQ⟩ := tr_of hD hM _ hw
        rw [withKeep_length] at hQ
        have R : Reg P ng N C ops its ρs hs vs := {
          it := fun k x hk => (m2 k x hk).2
          self := p1
          pair := p2
          all := fun i hi => by
            have := (List.all_eq_true.1 hcov) i (List.mem_range.2 hi)
            have hmem : i ∈ order id := by simpa using this
            obtain ⟨k, hk, hik⟩ := List.getElem_of_mem hmem
            have hk' : k < its.length := by omega
            refine ⟨k, its[k], List.getElem?_eq_getElem hk', ?_⟩
            have := (m2 k _ (List.getElem?_eq_getElem hk')).1
            rw [List.getElem?_eq_getElem hk] at this
            simp only [Option.some.injEq] at this
            rw [← this, hik]
          tr := tr
          wf := by rw [e2]; exact fun b hb => (S.fresh.free b hb).2
          call := hC
          det := hD
          ngb := by rw [e2]; exact hn }
        refine wp_region_any hm ?_
        have hrep : ∀ i, (Array.replicate ops.size false).getD i false = false := fun i => by
          rw [Array.getD_eq_getD_getElem?, Array.getElem?_replicate]
          split <;> rfl
        have hnone : ∀ k, k < its.length → exAt its (Array.replicate ops.size false) k = false := by
          intro k hk
          simp only [exAt, List.getElem?_eq_getElem hk]
          exact hrep _
        have hbelow : G.below (hs 0).next = G := by
          funext b
          unfold Gh.below
          split
          · rfl
          · rename_i hb; rw [e2] at hb; exact (S.fresh.free b (by omega)).1.symm
        have hval : ∀ m, m ≤ its.length → valK its (exAt its (Array.replicate ops.size false)) vs (ρs 0) m = ρs 0 ∧ ∀ t, wrK its (exAt its (Array.replicate ops.size false)) m t = 0 := by
          intro m
          induction m with
          | zero => intro _; exact ⟨rfl, fun _ => rfl⟩
          | succ m ih =>
            intro hm'
            obtain ⟨i1, i2⟩ := ih (by omega)
            have hex := hnone m (by omega)
            refine ⟨by rw [valK_succ, if_neg (by simp [hex])]; exact i1, fun t => by rw [wrK_succ, if_neg (by simp [hex])]; exact i2 t⟩
        have I : DInv R w G0 h0 w0 G 0 (Array.replicate ops.size false) a { w with drawn := w.drawn + 1 } := {
          closed := fun i o ho hi e he hb => by
            have hi' : (Array.replicate ops.size false).getD i false = true := hi
            rw [hrep i] at hi'; cases hi'
          len := by simp
          q_le := Nat.zero_le _
          q_e := fun k x hk _ => by
            have := hnone k (List.getElem?_eq_some_iff.1 hk).1
            simp [this]
          q_last := fun k hk => by omega
          heap := by rw [hbelow, e2]; exact S.heap.of_heap rfl
          grown := Nat.le_refl _
          early := fun k x _ hk _ hx => by
            have := hnone k (List.getElem?_eq_some_iff.1 hk).1
            rw [this] at hx; cases hx
          apart := fun k k' x x' c _ _ hk _ _ _ hx => by
            have := hnone k (List.getElem?_eq_some_iff.1 hk).1
            rw [this] at hx; cases hx
          dom := fun b x hb hx => by
            rw [e2] at hb
            rw [(S.fresh.free b hb).1] at hx; cases hx
          slots := fun t => by
            rw [(hval _ (Nat.le_refl _)).1, (hval _ (Nat.le_refl _)).2 t, Nat.max_self, hbelow, e1]
            exact S.frame t
          size := S.size
          defers := S.defers
          step := by rw [hbelow, e2]; exact s0.trans (Step.of_heap rfl rfl rfl rfl)
          w00 := s0.size
          base := by rw [e2]; exact S.heap.size }
        refine draw_any R hQ ops.size G 0 _ a _ I ?_
        have hle : ∀ (ex : Nat → Bool) m, cnt ex m ≤ m := by
          intro ex m
          induction m with
          | zero => exact Nat.le_refl _
          | succ m ih => unfold cnt; split <;> omega
        have := hle (exAt its (Array.replicate ops.size false)) its.length
        omega
      · cases hal
    · cases hal
  · cases hal

end Go.AM
