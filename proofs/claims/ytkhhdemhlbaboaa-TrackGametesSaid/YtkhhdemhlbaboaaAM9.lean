/- The abstract machine, part 9: the orders of a region, continued. -/
import Derived.Test.YtkhhdemhlbaboaaAM8
set_option linter.unusedVariables false
set_option linter.unusedSimpArgs false
namespace Go.AM

/-- Has the operation at this place come up? -/
def exAt (its : List It) (listed : Array Bool) (k : Nat) : Bool :=
  match its[k]? with
  | some it => listed.getD it.idx false
  | none => true

def dstAt (its : List It) (k : Nat) : Option Nat := (its[k]?).bind (·.ao.dst)

def valK (its : List It) (ex : Nat → Bool) (vs : Nat → Value) (ρ0 : Nat → Value) : Nat → (Nat → Value)
  | 0 => ρ0
  | k + 1 => if ex k = true then put (valK its ex vs ρ0 k) (dstAt its k) (vs k) else valK its ex vs ρ0 k

def wrK (its : List It) (ex : Nat → Bool) : Nat → Nat → Nat
  | 0, _ => 0
  | k + 1, t => if ex k = true ∧ dstAt its k = some t then k + 1 else wrK its ex k t

theorem valK_succ (its : List It) (ex : Nat → Bool) (vs : Nat → Value) (ρ0 : Nat → Value) (k : Nat) : valK its ex vs ρ0 (k + 1) = if ex k = true then put (valK its ex vs ρ0 k) (dstAt its k) (vs k) else valK its ex vs ρ0 k := rfl
theorem wrK_succ (its : List It) (ex : Nat → Bool) (k t : Nat) : wrK its ex (k + 1) t = if ex k = true ∧ dstAt its k = some t then k + 1 else wrK its ex k t := rfl

def cnt (ex : Nat → Bool) : Nat → Nat
  | 0 => 0
  | k + 1 => cnt ex k + (if ex k = true then 0 else 1)

theorem wrK_le (its : List It) (ex : Nat → Bool) : ∀ m t, wrK its ex m t ≤ m
  | 0, _ => Nat.le_refl _
  | m + 1, t => by
    unfold wrK
    split
    · exact Nat.le_refl _
    · exact Nat.le_succ_of_le (wrK_le its ex m t)

theorem put_some_ne {ρ : Nat → Value} {d : Option Nat} {v : Value} {t : Nat} (h : d ≠ some t) : put ρ d v t = ρ t := by
  cases d with
  | none => rfl
  | some d => simp only [put]; rw [if_neg (fun e => h (by rw [e]))]
theorem put_some_eq {ρ : Nat → Value} {v : Value} {t : Nat} : put ρ (some t) v t = v := by simp [put]

/-- What is the same for a whole region. -/
structure Reg (P : Program) (ng N : Nat) (C : CallP) (ops : Array Oper) (its : List It) (ρs : Nat → (Nat → Value)) (hs : Nat → Heap) (vs : Nat → Value) : Prop where
  it : ∀ (k : Nat) (x : It), its[k]? = some x → ops[x.idx]? = some x.op ∧ cOper P ng N ops [] x.op = some x.ao
  self : ∀ (k : Nat) (x : It), its[k]? = some x → selfOk ops x = true
  pair : ∀ (p q : Nat) (x y : It), p < q → its[p]? = some x → its[q]? = some y → pairOk ops x y = true
  all : ∀ i, i < ops.size → ∃ (k : Nat) (x : It), its[k]? = some x ∧ x.idx = i
  tr : Tr C (withKeep ops [] its) ρs hs vs
  wf : Wf (hs 0)
  call : CallSound P ng C
  det : CallDet C
  ngb : ng ≤ (hs 0).base

section
variable {P : Program} {ng N : Nat} {C : CallP} {ops : Array Oper} {its : List It} {ρs : Nat → (Nat → Value)} {hs : Nat → Heap} {vs : Nat → Value}

theorem Reg.step (R : Reg P ng N C ops its ρs hs vs) {k : Nat} {x : It} (hk : its[k]? = some x) :
    ρs (k + 1) = put (ρs k) x.ao.dst (vs k) ∧ Grows (hs k) (hs (k + 1)) ∧
    ((want (ρs k) x.ao.guard = true ∧ wpOp C { x.ao with keep := if isE x.ao.op = true then keepOf ops x (its.take k) else [] } (ρs k) (hs k) (fun v h' => v = vs k ∧ h' = hs (k + 1))) ∨ (want (ρs k) x.ao.guard = false ∧ vs k = undef ∧ hs (k + 1) = hs k)) := by
  have := R.tr.step k _ (by simpa using withKeep_get (ops := ops) its [] k x hk)
  simpa using this

theorem Reg.grows (R : Reg P ng N C ops its ρs hs vs) : ∀ {m k : Nat}, m ≤ its.length → k ≤ m → Grows (hs k) (hs m)
  | 0, k, _, hk => by have : k = 0 := by omega
                      subst this; exact .refl _
  | m + 1, k, hm, hk => by
    by_cases h : k = m + 1
    · subst h; exact .refl _
    · have hx : its[m]? = some its[m] := List.getElem?_eq_getElem (by omega)
      exact (Reg.grows R (by omega) (by omega)).trans (R.step hx).2.1

theorem Reg.wfAt (R : Reg P ng N C ops its ρs hs vs) {k : Nat} (hk : k ≤ its.length) : Wf (hs k) := (R.grows hk (Nat.zero_le _)).wf R.wf
theorem Reg.baseAt (R : Reg P ng N C ops its ρs hs vs) {k : Nat} (hk : k ≤ its.length) : (hs k).base = (hs 0).base := (R.grows hk (Nat.zero_le _)).base

/-- An operation that only computes or loads leaves memory as it was. -/
theorem Reg.same (R : Reg P ng N C ops its ρs hs vs) {k : Nat} {x : It} (hk : its[k]? = some x) (hE : isE x.ao.op = false) (hA : isA x.ao.op = false) : hs (k + 1) = hs k := by
  obtain ⟨_, _, h | h⟩ := R.step hk
  · obtain ⟨_, h⟩ := h
    obtain ⟨idx, op, ao⟩ := x
    obtain ⟨dst, guard, op, keep⟩ := ao
    cases op with
    | p q =>
      simp only [wpOp] at h
      split at h
      · exact h.2.symm
      · exact h.elim
    | l n g x =>
      simp only [wpOp] at h
      split at h
      · exact h.2.symm
      · exact h.elim
    | a q => simp [isA] at hA
    | e q => simp [isE] at hE
    | c f as => simp [isE] at hE
    | i f t as => simp [isE] at hE
  · exact h.2.2

theorem Reg.newAt (R : Reg P ng N C ops its ρs hs vs) {k : Nat} {x : It} (hk : its[k]? = some x) {q : AlOp} (hq : x.ao.op = .a q) (hw : want (ρs k) x.ao.guard = true) :
    ∃ cs f, alop q (ρs k) = some (cs, f) ∧ vs k = f (hs k).next ∧ hs (k + 1) = (hs k).alloc { cells := cs, esz := 0 } := by
  obtain ⟨_, _, h | h⟩ := R.step hk
  · obtain ⟨_, h⟩ := h
    simp only [wpOp, hq] at h
    split at h
    · rename_i cs f e; exact ⟨cs, f, e, h.1.symm, h.2.symm⟩
    · exact h.elim
  · rw [hw] at h; cases h.1

theorem Reg.skipped (R : Reg P ng N C ops its ρs hs vs) {k : Nat} {x : It} (hk : its[k]? = some x) (hw : want (ρs k) x.ao.guard = false) : vs k = undef ∧ hs (k + 1) = hs k := by
  obtain ⟨_, _, h | h⟩ := R.step hk
  · rw [hw] at h; cases h.1
  · exact h.2

/-! What one pair says -/
theorem pair_must {p q : It} (h : pairOk ops p q = true) (hc : (isE p.ao.op && isE q.ao.op) = true ∨ (isA p.ao.op && isE q.ao.op) = true ∨ (isE p.ao.op && (isL q.ao.op).isSome) = true ∨ clash p q = true) : must ops p.idx q.idx = true := by
  unfold pairOk at h
  simp only [Bool.and_eq_true, Bool.or_eq_true, Bool.not_eq_true'] at h
  obtain ⟨⟨_, h⟩, _⟩ := h
  rcases h with h | ⟨⟨⟨h1, h2⟩, h3⟩, h4⟩
  · exact h
  · rcases hc with hc | hc | hc | hc
    · rw [h1] at hc; cases hc
    · rw [h2] at hc; cases hc
    · rw [h3] at hc; cases hc
    · rw [h4] at hc; cases hc
theorem pair_lin {p q : It} (h : pairOk ops p q = true) : p.idx ≠ q.idx ∧ ∀ e ∈ p.op.after, Region.binds .any e = true → e.on ≠ q.idx := by
  unfold pairOk at h
  simp only [Bool.and_eq_true, Bool.not_eq_true', bne_iff_ne, List.all_eq_true, Bool.or_eq_true] at h
  refine ⟨h.1.1.1, fun e he hb => ?_⟩
  rcases h.1.1.2 e (by simpa using he) with h | h
  · rw [hb] at h; cases h
  · exact h
theorem self_edges {p : It} (h : selfOk ops p = true) : ∀ e ∈ p.op.after, Region.binds .any e = true → e.on ≠ p.idx ∧ e.on < ops.size := by
  unfold selfOk at h
  simp only [Bool.and_eq_true, Bool.not_eq_true', bne_iff_ne, List.all_eq_true, Bool.or_eq_true, decide_eq_true_eq] at h
  intro e he hb
  rcases h.1 e (by simpa using he) with h | h
  · rw [hb] at h; cases h
  · exact h
theorem pair_addr {p q : It} (h : pairOk ops p q = true) {t n : Nat} (hl : isL p.ao.op = some (.tmp t, n)) : q.ao.dst ≠ some t := by
  unfold pairOk at h
  simp only [Bool.and_eq_true, hl, bne_iff_ne] at h
  exact h.2

theorem clash_dst {p q : It} {d : Nat} (hp : p.ao.dst = some d) (hq : d ∈ looks q.op q.ao.guard ∨ q.ao.dst = some d) : clash p q = true := by
  unfold clash
  simp only [hp, Bool.or_eq_true]
  left
  rcases hq with h | h
  · left; simpa using h
  · right; simp [h]
theorem clash_read {p q : It} {d : Nat} (hq : q.ao.dst = some d) (hp : d ∈ looks p.op p.ao.guard) : clash p q = true := by
  unfold clash
  simp only [hq, Bool.or_eq_true]
  right
  simpa using hp

/-- The state in the midst of a region, some operations having come up. -/
structure DInv (R : Reg P ng N C ops its ρs hs vs) (w0 : World) (G0 : Gh) (h00 : Heap) (w00 : World) (G : Gh) (q : Nat) (listed : Array Bool) (a : Act) (w : World) : Prop where
  closed : Closed ops (fun i => listed.getD i false = true)
  len : listed.size = ops.size
  q_le : q ≤ its.length
  q_e : ∀ (k : Nat) (x : It), its[k]? = some x → isE x.ao.op = true → (exAt its listed k = true ↔ k < q)
  q_last : ∀ (k : Nat), k + 1 = q → ∃ x, its[k]? = some x ∧ isE x.ao.op = true
  heap : HRel (G.below (hs q).next) (hs q) w
  grown : w0.heap.size ≤ w.heap.size
  early : ∀ (k : Nat) (x : It), q ≤ k → its[k]? = some x → isA x.ao.op = true → exAt its listed k = true → want (ρs k) x.ao.guard = true →
    ∃ c C T cs, G (hs k).next = some (c, 0) ∧ w.heap[c]? = some (.cells C T (0, 0)) ∧ hs (k + 1) = (hs k).alloc { cells := cs, esz := 0 } ∧ VRels (G.below (hs k).next) cs C.toList ∧ w0.heap.size ≤ c ∧ ¬ Mine (G.below (hs q).next) (hs q) c
  apart : ∀ (k k' : Nat) (x x' : It) (c : Nat), q ≤ k → q ≤ k' → its[k]? = some x → its[k']? = some x' → isA x.ao.op = true → isA x'.ao.op = true → exAt its listed k = true → exAt its listed k' = true →
    want (ρs k) x.ao.guard = true → want (ρs k') x'.ao.guard = true → G (hs k).next = some (c, 0) → G (hs k').next = some (c, 0) → k = k'
  dom : ∀ b x, (hs q).next ≤ b → G b = some x → ∃ (k : Nat) (y : It), q ≤ k ∧ its[k]? = some y ∧ isA y.ao.op = true ∧ exAt its listed k = true ∧ want (ρs k) y.ao.guard = true ∧ b = (hs k).next
  slots : ∀ t, VRel (G.below (hs (max (wrK its (exAt its listed) its.length t) q)).next) (valK its (exAt its listed) vs (ρs 0) its.length t) (a.tmps.getD t undef)
  size : a.tmps.size = N
  defers : a.defers = []
  step : Step G0 h00 w00 (G.below (hs q).next) (hs q) w
  w00 : w00.heap.size ≤ w0.heap.size
  base : (hs 0).base ≤ w0.heap.size

theorem below_alloc {G : Gh} {n : Nat} {y : Nat × Nat} (h : G n = some y) : G.below (n + 1) = (G.below n).set n y := by
  funext b
  unfold Gh.below Gh.set
  by_cases h1 : b = n
  · subst h1; simp [h]
  · rw [if_neg h1]
    by_cases h2 : b < n
    · rw [if_pos (by omega)]; exact (if_pos h2).symm
    · rw [if_neg (by omega)]; exact (if_neg h2).symm

/-- From the last effect on, as far as no effect stands and all that is made has been made. -/
theorem DInv.adv {R : Reg P ng N C ops its ρs hs vs} {w0 : World} {G0 : Gh} {h00 : Heap} {w00 : World} {G : Gh} {q : Nat} {listed : Array Bool} {a : Act} {w : World} (I : DInv R w0 G0 h00 w00 G q listed a w) :
    ∀ m, q ≤ m → m ≤ its.length → (∀ (k : Nat) (x : It), q ≤ k → k < m → its[k]? = some x → isE x.ao.op = false ∧ (isA x.ao.op = true → exAt its listed k = true)) →
    HRel (G.below (hs m).next) (hs m) w ∧ Step G0 h00 w00 (G.below (hs m).next) (hs m) w ∧
    ∀ c, Mine (G.below (hs m).next) (hs m) c → Mine (G.below (hs q).next) (hs q) c ∨ ∃ (k : Nat) (x : It), q ≤ k ∧ k < m ∧ its[k]? = some x ∧ isA x.ao.op = true ∧ exAt its listed k = true ∧ want (ρs k) x.ao.guard = true ∧ G (hs k).next = some (c, 0) := by
  intro m
  induction m with
  | zero =>
    intro hq _ _
    have : q = 0 := by omega
    subst this
    exact ⟨I.heap, I.step, fun c hc => .inl hc⟩
  | succ m ih =>
    intro hq hm hall
    by_cases he : q = m + 1
    · subst he; exact ⟨I.heap, I.step, fun c hc => .inl hc⟩
    · obtain ⟨i1, i2, i3⟩ := ih (by omega) (by omega) (fun k x h1 h2 hx => hall k x h1 (by omega) hx)
      have hx : its[m]? = some its[m] := List.getElem?_eq_getElem (by omega)
      obtain ⟨hE, hA⟩ := hall m _ (by omega) (by omega) hx
      have same : hs (m + 1) = hs m → HRel (G.below (hs (m + 1)).next) (hs (m + 1)) w ∧ Step G0 h00 w00 (G.below (hs (m + 1)).next) (hs (m + 1)) w ∧
          ∀ c, Mine (G.below (hs (m + 1)).next) (hs (m + 1)) c → Mine (G.below (hs q).next) (hs q) c ∨ ∃ (k : Nat) (x : It), q ≤ k ∧ k < m + 1 ∧ its[k]? = some x ∧ isA x.ao.op = true ∧ exAt its listed k = true ∧ want (ρs k) x.ao.guard = true ∧ G (hs k).next = some (c, 0) := by
        intro h
        rw [h]
        refine ⟨i1, i2, fun c hc => ?_⟩
        rcases i3 c hc with h | ⟨k, x, h1, h2, h3⟩
        · exact .inl h
        · exact .inr ⟨k, x, h1, by omega, h3⟩
      cases hia : isA its[m].ao.op with
      | false => exact same (R.same hx hE hia)
      | true =>
        cases hwn : want (ρs m) its[m].ao.guard with
        | false => exact same (R.skipped hx hwn).2
        | true =>
          obtain ⟨c, Cc, T, cs, g1, g2, g3, g4, g5, g6⟩ := I.early m _ (by omega) hx hia (hA hia) hwn
          have hb := below_alloc g1
          have hnext : (hs (m + 1)).next = (hs m).next + 1 := by rw [g3]; rfl
          have hbase := R.baseAt (k := m) (by omega)
          have hcb : (hs m).base ≤ c := by have := I.base; omega
          have hidb : (hs m).base ≤ (hs m).next := by
            have h1 := i2.next; have h2 := i2.base
            have := I.heap.size
            by_cases h : (hs m).base ≤ (hs m).next
            · exact h
            · exfalso
              obtain ⟨y, hy⟩ := i1.low (hs m).next (by omega)
              unfold Gh.below at hy
              rw [if_neg (by omega)] at hy; cases hy
          have hnm : ¬ Mine (G.below (hs m).next) (hs m) c := fun hc => by
            rcases i3 c hc with h | ⟨k, x, h1, h2, h3, h4, h5, h6, h7⟩
            · exact g6 h
            · have := I.apart k m x _ c h1 (by omega) h3 hx h4 hia h5 (hA hia) h6 hwn h7 g1
              omega
          have hGn : G.below (hs m).next (hs m).next = none := by unfold Gh.below; rw [if_neg (by omega)]
          have hadd := i1.add hidb hGn (o := { cells := cs, esz := 0 }) hcb g2 hnm rfl g4
          refine ⟨?_, ?_, fun c' hc' => ?_⟩
          · rw [hnext, hb, g3]; exact hadd.of_next _
          · rw [hnext, hb, g3]
            refine ⟨Gh.le_trans i2.le (Gh.le_set hGn), i2.base, by have := i2.next; simp only [Heap.alloc]; omega, i2.os, i2.tape, i2.output, i2.size, i2.keeps, fun c' hc' => ?_⟩
            obtain ⟨b, k1, b1, b2, b3⟩ := hc'
            simp only [Heap.alloc, Gh.set] at b1 b2 b3
            by_cases hbn : b = (hs m).next
            · rw [if_pos hbn] at b3; simp only [Option.some.injEq, Prod.mk.injEq] at b3
              have := I.w00
              exact .inr (by omega)
            · rw [if_neg hbn] at b2 b3
              exact i2.img c' ⟨b, k1, b1, b2, b3⟩
          · rw [hnext, hb, g3] at hc'
            obtain ⟨b, k1, b1, b2, b3⟩ := hc'
            simp only [Heap.alloc, Gh.set] at b1 b2 b3
            by_cases hbn : b = (hs m).next
            · rw [if_pos hbn] at b3; simp only [Option.some.injEq, Prod.mk.injEq] at b3
              obtain ⟨rfl, rfl⟩ := b3
              exact .inr ⟨m, _, by omega, by omega, hx, hia, hA hia, hwn, g1⟩
            · rw [if_neg hbn] at b2 b3
              rcases i3 c' ⟨b, k1, b1, b2, b3⟩ with h | ⟨k, x, h1, h2, h3⟩
              · exact .inl h
              · exact .inr ⟨k, x, h1, by omega, h3⟩

theorem DInv.unex {R : Reg P ng N C ops its ρs hs vs} {w0 : World} {G0 : Gh} {h00 : Heap} {w00 : World} {G : Gh} {q : Nat} {listed : Array Bool} {a : Act} {w : World} (I : DInv R w0 G0 h00 w00 G q listed a w)
    {j k : Nat} {x y : It} (hx : its[j]? = some x) (hy : its[k]? = some y) (hj : exAt its listed j = false) (hm : must ops x.idx y.idx = true) : exAt its listed k = false := by
  cases h : exAt its listed k with
  | false => rfl
  | true =>
    simp only [exAt, hx, hy] at hj h
    have := must_spec I.closed hm h
    rw [hj] at this; cases this

/-- An operation that may come up now: what it waits for has come up. -/
structure Now (ops : Array Oper) (its : List It) (listed : Array Bool) (j : Nat) (x : It) : Prop where
  at_ : its[j]? = some x
  no : exAt its listed j = false
  waits : ∀ e ∈ x.op.after, Region.binds .any e = true → listed.getD e.on false = true

theorem closed_set {R : Reg P ng N C ops its ρs hs vs} {w0 : World} {G0 : Gh} {h00 : Heap} {w00 : World} {G : Gh} {q : Nat} {listed : Array Bool} {a : Act} {w : World} (I : DInv R w0 G0 h00 w00 G q listed a w) {j : Nat} {x : It} (J : Now ops its listed j x) :
    Closed ops (fun i => (listed.setIfInBounds x.idx true).getD i false = true) := fun i o ho hi e he hb => by
  by_cases h : i = x.idx
  · subst h
    have := (R.it j x J.at_).1
    rw [this] at ho; simp only [Option.some.injEq] at ho; subst ho
    exact getD_set_true (J.waits e he hb)
  · have : listed.getD i false = true := by
      have hi' : (listed.setIfInBounds x.idx true).getD i false = true := hi
      rw [getD_set_ne false (Ne.symm h)] at hi'; exact hi'
    exact getD_set_true (I.closed i o ho this e he hb)

theorem ex_set {R : Reg P ng N C ops its ρs hs vs} {listed : Array Bool} (hlen : listed.size = ops.size) {j : Nat} {x : It} (hx : its[j]? = some x) (k : Nat) : exAt its (listed.setIfInBounds x.idx true) k = if k = j then true else exAt its listed k := by
  have hb : x.idx < listed.size := by
    have := (R.it j x hx).1
    have := (Array.getElem?_eq_some_iff.1 this).1
    omega
  by_cases h : k = j
  · subst h
    simp [exAt, hx, hb]
  · rw [if_neg h]
    cases hy : its[k]? with
    | none => simp [exAt, hy]
    | some y =>
      have hne : x.idx ≠ y.idx := by
        rcases Nat.lt_or_gt_of_ne h with hlt | hlt
        · exact Ne.symm (pair_lin (R.pair k j y x hlt hy hx)).1
        · exact (pair_lin (R.pair j k x y hlt hx hy)).1
      simp only [exAt, hy]
      exact getD_set_ne false hne

theorem DInv.pred {R : Reg P ng N C ops its ρs hs vs} {w0 : World} {G0 : Gh} {h00 : Heap} {w00 : World} {G : Gh} {q : Nat} {listed : Array Bool} {a : Act} {w : World} (I : DInv R w0 G0 h00 w00 G q listed a w) {j : Nat} {x : It} (J : Now ops its listed j x)
    {k : Nat} {y : It} (hy : its[k]? = some y) (hkj : k ≠ j) (hm : must ops y.idx x.idx = true) : exAt its listed k = true := by
  have hcl := closed_set I J
  have hb : x.idx < listed.size := by
    have := (R.it j x J.at_).1
    have := (Array.getElem?_eq_some_iff.1 this).1
    have := I.len
    omega
  have := must_spec hcl hm (by simp [hb])
  have h2 := ex_set (R := R) I.len J.at_ k
  rw [if_neg hkj] at h2
  rw [← h2]
  simp only [exAt, hy]
  exact this

theorem DInv.reads {R : Reg P ng N C ops its ρs hs vs} {w0 : World} {G0 : Gh} {h00 : Heap} {w00 : World} {G : Gh} {q : Nat} {listed : Array Bool} {a : Act} {w : World} (I : DInv R w0 G0 h00 w00 G q listed a w) {j : Nat} {x : It} (J : Now ops its listed j x)
    {t : Nat} (ht : t ∈ looks x.op x.ao.guard) : valK its (exAt its listed) vs (ρs 0) its.length t = ρs j t ∧ wrK its (exAt its listed) its.length t ≤ j := by
  have hjn : j < its.length := (List.getElem?_eq_some_iff.1 J.at_).1
  have A : ∀ m, m ≤ j → valK its (exAt its listed) vs (ρs 0) m t = ρs m t := by
    intro m
    induction m with
    | zero => intro _; rfl
    | succ m ih =>
      intro hm
      have ih := ih (by omega)
      have hy : its[m]? = some its[m] := List.getElem?_eq_getElem (by omega)
      have hstep := (R.step hy).1
      have hd : dstAt its m = its[m].ao.dst := by simp [dstAt, hy]
      rw [hstep, valK_succ]
      by_cases hdt : its[m].ao.dst = some t
      · have hmu := pair_must (R.pair m j _ x (by omega) hy J.at_) (.inr (.inr (.inr (clash_dst hdt (.inl ht)))))
        rw [if_pos (I.pred J hy (by omega) hmu), hd, hdt, put_some_eq, put_some_eq]
      · rw [put_some_ne hdt]
        split
        · rw [hd, put_some_ne hdt]; exact ih
        · exact ih
  have B : ∀ m, j ≤ m → m ≤ its.length → valK its (exAt its listed) vs (ρs 0) m t = valK its (exAt its listed) vs (ρs 0) j t ∧ wrK its (exAt its listed) m t = wrK its (exAt its listed) j t := by
    intro m
    induction m with
    | zero => intro h _; have : j = 0 := by omega
              subst this; exact ⟨rfl, rfl⟩
    | succ m ih =>
      intro hjm hm
      by_cases he : j = m + 1
      · subst he; exact ⟨rfl, rfl⟩
      · obtain ⟨i1, i2⟩ := ih (by omega) (by omega)
        have hy : its[m]? = some its[m] := List.getElem?_eq_getElem (by omega)
        have hd : dstAt its m = its[m].ao.dst := by simp [dstAt, hy]
        rw [valK_succ, wrK_succ]
        by_cases hdt : its[m].ao.dst = some t
        · have hex : exAt its listed m = false := by
            by_cases hmj : m = j
            · subst hmj; exact J.no
            · exact I.unex J.at_ hy J.no (pair_must (R.pair j m x _ (by omega) J.at_ hy) (.inr (.inr (.inr (clash_read hdt ht)))))
          rw [if_neg (by simp [hex]), if_neg (by simp [hex])]
          exact ⟨i1, i2⟩
        · refine ⟨?_, ?_⟩
          · split
            · rw [hd, put_some_ne hdt]; exact i1
            · exact i1
          · rw [if_neg (by rw [hd]; exact fun h => hdt h.2)]; exact i2
  obtain ⟨b1, b2⟩ := B its.length (by omega) (Nat.le_refl _)
  exact ⟨b1.trans (A j (Nat.le_refl _)), by rw [b2]; exact wrK_le _ _ _ _⟩

theorem DInv.writes {R : Reg P ng N C ops its ρs hs vs} {w0 : World} {G0 : Gh} {h00 : Heap} {w00 : World} {G : Gh} {q : Nat} {listed : Array Bool} {a : Act} {w : World} (I : DInv R w0 G0 h00 w00 G q listed a w) {j : Nat} {x : It} (J : Now ops its listed j x) (t : Nat) :
    valK its (exAt its (listed.setIfInBounds x.idx true)) vs (ρs 0) its.length t = (if x.ao.dst = some t then vs j else valK its (exAt its listed) vs (ρs 0) its.length t) ∧
    wrK its (exAt its (listed.setIfInBounds x.idx true)) its.length t = (if x.ao.dst = some t then j + 1 else wrK its (exAt its listed) its.length t) := by
  have hjn : j < its.length := (List.getElem?_eq_some_iff.1 J.at_).1
  have hex : ∀ k, exAt its (listed.setIfInBounds x.idx true) k = if k = j then true else exAt its listed k := ex_set (R := R) I.len J.at_
  generalize exAt its (listed.setIfInBounds x.idx true) = ex' at *
  have A : ∀ m, m ≤ j → valK its ex' vs (ρs 0) m = valK its (exAt its listed) vs (ρs 0) m ∧ wrK its ex' m t = wrK its (exAt its listed) m t := by
    intro m
    induction m with
    | zero => intro _; exact ⟨rfl, rfl⟩
    | succ m ih =>
      intro hm
      obtain ⟨i1, i2⟩ := ih (by omega)
      rw [valK_succ, valK_succ, wrK_succ, wrK_succ, hex m, if_neg (by omega : ¬ m = j), i1, i2]
      exact ⟨rfl, rfl⟩
  have B : ∀ m, j + 1 ≤ m → m ≤ its.length → valK its ex' vs (ρs 0) m t = (if x.ao.dst = some t then vs j else valK its (exAt its listed) vs (ρs 0) m t) ∧
      wrK its ex' m t = (if x.ao.dst = some t then j + 1 else wrK its (exAt its listed) m t) := by
    intro m
    induction m with
    | zero => intro h _; omega
    | succ m ih =>
      intro hjm hm
      have hy : its[m]? = some its[m] := List.getElem?_eq_getElem (by omega)
      have hd : dstAt its m = its[m].ao.dst := by simp [dstAt, hy]
      by_cases he : m = j
      · have hmx : its[m] = x := by
          have := J.at_; rw [← he, hy] at this; simpa using this
        obtain ⟨a1, a2⟩ := A m (by omega)
        rw [valK_succ, valK_succ, wrK_succ, wrK_succ, hex m, if_pos he, hd, hmx, a1, a2]
        have hno : exAt its listed m = false := by rw [he]; exact J.no
        simp only [hno, Bool.false_eq_true, if_false, false_and, if_true, true_and]
        by_cases hdt : x.ao.dst = some t
        · simp only [hdt, if_true, put_some_eq, he]; exact ⟨trivial, trivial⟩
        · rw [put_some_ne hdt, if_neg hdt, if_neg hdt, if_neg hdt]; exact ⟨rfl, rfl⟩
      · obtain ⟨i1, i2⟩ := ih (by omega) (by omega)
        rw [valK_succ, valK_succ, wrK_succ, wrK_succ, hex m, if_neg he]
        by_cases hdt : x.ao.dst = some t
        · rw [if_pos hdt] at i1 i2
          rw [if_pos hdt, if_pos hdt]
          by_cases hdm : its[m].ao.dst = some t
          · have hno : exAt its listed m = false := I.unex J.at_ hy J.no (pair_must (R.pair j m x _ (by omega) J.at_ hy) (.inr (.inr (.inr (clash_dst hdt (.inr hdm))))))
            simp only [hno, Bool.false_eq_true, if_false, false_and]
            exact ⟨i1, i2⟩
          · refine ⟨?_, ?_⟩
            · split
              · rw [hd, put_some_ne hdm]; exact i1
              · exact i1
            · rw [hd, if_neg (fun h => hdm h.2)]; exact i2
        · rw [if_neg hdt] at i1 i2
          rw [if_neg hdt, if_neg hdt, hd]
          by_cases hdm : its[m].ao.dst = some t
          · cases hxm : exAt its listed m with
            | true => simp [hdm, put_some_eq]
            | false => simp [hdm, i1, i2]
          · refine ⟨?_, ?_⟩
            · split
              · rw [put_some_ne hdm, put_some_ne hdm]; exact i1
              · exact i1
            · rw [if_neg (fun h => hdm h.2), if_neg (fun h => hdm h.2)]; exact i2
  exact B its.length (by omega) (Nat.le_refl _)

/-- The operands of an operation that may come up now. -/
theorem DInv.operands {R : Reg P ng N C ops its ρs hs vs} {w0 : World} {G0 : Gh} {h00 : Heap} {w00 : World} {G : Gh} {q : Nat} {listed : Array Bool} {a : Act} {w : World} (I : DInv R w0 G0 h00 w00 G q listed a w) {j : Nat} {x : It} (J : Now ops its listed j x) :
    ∀ z, z ∈ x.op.op.operands → VRel (G.below (hs (max j q)).next) (ev (ρs j) z) (a.eval z) := fun z hz => by
  have hjn : j < its.length := (List.getElem?_eq_some_iff.1 J.at_).1
  have hspec := cOper_spec (R.it j x J.at_).2
  cases z with
  | tmp t =>
    have ht : t ∈ looks x.op x.ao.guard := by
      unfold looks
      refine List.mem_append_left _ (List.mem_filterMap.2 ⟨.tmp t, by simpa using hz, rfl⟩)
    obtain ⟨r1, r2⟩ := I.reads J ht
    have := I.slots t
    rw [r1] at this
    refine this.mono (Gh.below_le _ ((R.grows (m := max j q) (k := max (wrK its (exAt its listed) its.length t) q) (by have := I.q_le; omega) (by omega)).next))
  | const v => exact VRel.const (opsOk_get hspec.2.1 hz)
  | global g =>
    have hg := opsOk_get hspec.2.1 hz
    simp [opOk] at hg
    obtain ⟨k, hk⟩ := I.heap.low g (by have := R.ngb; have := R.baseAt I.q_le; omega)
    exact .ptr 0 (Gh.below_le G (R.grows (m := max j q) (k := q) (by have := I.q_le; omega) (by omega)).next _ _ hk)
  | func f => exact .func f (x := []) (x' := []) (c := []) (c' := []) .nil .nil

end
end Go.AM
