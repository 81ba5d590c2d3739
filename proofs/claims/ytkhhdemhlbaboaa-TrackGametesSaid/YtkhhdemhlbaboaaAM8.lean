/- The abstract machine, part 8: a region whose order Go leaves open comes to what one order comes to. -/
import Derived.Test.YtkhhdemhlbaboaaAM7
set_option linter.unusedVariables false
set_option linter.unusedSimpArgs false
namespace Go.AM

/-! ### What must have come up before what -/
/-- The set of what has come up holds, with an operation, all that it waits for. -/
def Closed (ops : Array Oper) (S : Nat → Prop) : Prop := ∀ (j : Nat) (o : Oper), ops[j]? = some o → S j → ∀ e ∈ o.after, Region.binds .any e = true → S e.on

def befGo : List Oper → List Nat → List Nat
  | [], acc => acc
  | o :: r, acc => befGo r (acc ++ [o.after.toList.foldl (fun s e => if Region.binds .any e = true then s ||| 2 ^ e.on ||| acc.getD e.on 0 else s) 0])

def bef (ops : Array Oper) : List Nat := befGo ops.toList []

theorem foldl_bits {es : List Edge} {acc : List Nat} {P : Nat → Prop} (h1 : ∀ e ∈ es, Region.binds .any e = true → P e.on) (h2 : ∀ e ∈ es, Region.binds .any e = true → ∀ i, (acc.getD e.on 0).testBit i = true → P i) :
    ∀ s, (∀ i, s.testBit i = true → P i) → ∀ i, (es.foldl (fun s e => if Region.binds .any e = true then s ||| 2 ^ e.on ||| acc.getD e.on 0 else s) s).testBit i = true → P i := by
  induction es with
  | nil => intro s hs i hi; exact hs i hi
  | cons e es ih =>
    intro s hs i hi
    simp only [List.foldl_cons] at hi
    refine ih (fun e he => h1 e (by simp [he])) (fun e he => h2 e (by simp [he])) _ ?_ i hi
    intro j hj
    split at hj
    · rename_i hb
      rw [Nat.testBit_or, Nat.testBit_or, Bool.or_eq_true, Bool.or_eq_true] at hj
      rcases hj with (hj | hj) | hj
      · exact hs j hj
      · rw [Nat.testBit_two_pow] at hj
        have : e.on = j := by simpa using hj
        subst this
        exact h1 e (by simp) hb
      · exact h2 e (by simp) hb j hj
    · exact hs j hj

theorem befGo_spec {ops : Array Oper} {S : Nat → Prop} (hS : Closed ops S) : ∀ (l : List Oper) (acc : List Nat), (∀ j o, l[j]? = some o → ops[acc.length + j]? = some o) → (∀ j x, acc[j]? = some x → S j → ∀ i, x.testBit i = true → S i) →
    ∀ j x, (befGo l acc)[j]? = some x → S j → ∀ i, x.testBit i = true → S i
  | [], acc, _, ha, j, x, hx, hj, i, hi => ha j x hx hj i hi
  | o :: l, acc, hl, ha, j, x, hx, hj, i, hi => by
    unfold befGo at hx
    refine befGo_spec hS l _ (fun k o' hk => ?_) (fun k y hy hk m hm => ?_) j x hx hj i hi
    · have := hl (k + 1) o' (by simpa using hk)
      rw [List.length_append, List.length_singleton]
      rwa [show acc.length + 1 + k = acc.length + (k + 1) by omega]
    · rw [List.getElem?_append] at hy
      split at hy
      · exact ha k y hy hk m hm
      · rename_i hlt
        have hk0 : k = acc.length := by
          by_cases h : k = acc.length
          · exact h
          · rw [List.getElem?_eq_none (by simp; omega)] at hy; cases hy
        subst hk0
        rw [Nat.sub_self] at hy
        simp only [List.getElem?_cons_zero, Option.some.injEq] at hy
        subst hy
        have ho := hl 0 o rfl
        simp only [Nat.add_zero] at ho
        refine foldl_bits (P := S) (es := o.after.toList) (acc := acc) (fun e he hb => hS _ o ho hk e (by simpa using he) hb) (fun e he hb i' hi' => ?_) 0 (by simp) m hm
        have hon := hS _ o ho hk e (by simpa using he) hb
        rw [List.getD_eq_getElem?_getD] at hi'
        cases hg : acc[e.on]? with
        | none => simp [hg] at hi'
        | some z => simp only [hg, Option.getD_some] at hi'; exact ha e.on z hg hon i' hi'

/-- 'i' must come up before 'j'. -/
def must (ops : Array Oper) (i j : Nat) : Bool := ((bef ops).getD j 0).testBit i

theorem must_spec {ops : Array Oper} {S : Nat → Prop} (hS : Closed ops S) {i j : Nat} (h : must ops i j = true) (hj : S j) : S i := by
  unfold must at h
  rw [List.getD_eq_getElem?_getD] at h
  cases hg : (bef ops)[j]? with
  | none => simp [hg] at h
  | some x =>
    simp only [hg, Option.getD_some] at h
    exact befGo_spec hS ops.toList [] (fun k o hk => by simpa using hk) (by simp) j x hg hj i h

/-! ### The look at a region -/
def isE : AOp → Bool
  | .e _ | .c _ _ | .i _ _ _ => true
  | _ => false
def isA : AOp → Bool
  | .a _ => true
  | _ => false
def isL : AOp → Option (Operand × Nat)
  | .l n _ x => some (x, n)
  | _ => none

/-- The slots that an operation looks at. -/
def looks (o : Oper) (g : Option (Nat × Bool)) : List Nat :=
  (o.op.operands.toList.filterMap fun | .tmp t => some t | _ => none) ++ (match g with
    | some (s, _) => [s]
    | none => [])

structure It where
  idx : Nat
  op : Oper
  ao : AOper

def mkIts (P : Program) (ng N : Nat) (ops : Array Oper) : List Nat → Option (List It)
  | [] => some []
  | i :: r => match ops[i]? with
    | some o => match cOper P ng N ops [] o, mkIts P ng N ops r with
      | some ao, some l => some ({ idx := i, op := o, ao := ao } :: l)
      | _, _ => none
    | none => none

def clash (p q : It) : Bool :=
  (match p.ao.dst with
    | some d => (looks q.op q.ao.guard).contains d || q.ao.dst == some d
    | none => false) ||
  (match q.ao.dst with
    | some d => (looks p.op p.ao.guard).contains d
    | none => false)

/-- Of two operations, the first ahead of the second in the order that is walked. -/
def pairOk (ops : Array Oper) (p q : It) : Bool :=
  p.idx != q.idx && (p.op.after.toList.all fun e => !Region.binds .any e || e.on != q.idx) &&
  (must ops p.idx q.idx || (!(isE p.ao.op && isE q.ao.op) && !(isA p.ao.op && isE q.ao.op) && !(isE p.ao.op && (isL q.ao.op).isSome) && !clash p q)) &&
  (match isL p.ao.op with
    | some (.tmp t, _) => q.ao.dst != some t
    | _ => true)

def selfOk (ops : Array Oper) (p : It) : Bool :=
  (p.op.after.toList.all fun e => !Region.binds .any e || (e.on != p.idx && decide (e.on < ops.size))) &&
  (match isL p.ao.op with
    | some (.tmp t, _) => p.ao.dst != some t
    | _ => true)

def pairsOk (ops : Array Oper) : List It → Bool
  | [] => true
  | p :: r => selfOk ops p && (r.all (pairOk ops p)) && pairsOk ops r

/-- What must be the same behind an effect: what was loaded ahead of it and need not have been. -/
def keepOf (ops : Array Oper) (q : It) : List It → List (Operand × Nat)
  | [] => []
  | p :: r => match isL p.ao.op with
    | some x => if must ops p.idx q.idx = true then keepOf ops q r else x :: keepOf ops q r
    | none => keepOf ops q r

def withKeep (ops : Array Oper) : List It → List It → List AOper
  | _, [] => []
  | done, q :: r => { q.ao with keep := if isE q.ao.op = true then keepOf ops q done else [] } :: withKeep ops (done ++ [q]) r

def cDraw (P : Program) (ng N : Nat) (ops : Array Oper) (order : List Nat) : Option (List AOper) :=
  if order.length = ops.size ∧ (List.range ops.size).all (fun i => order.contains i) = true then
    match mkIts P ng N ops order with
    | some its => if pairsOk ops its = true then some (withKeep ops [] its) else none
    | none => none
  else none

theorem mkIts_spec {P : Program} {ng N : Nat} {ops : Array Oper} : ∀ (order : List Nat) (its : List It), mkIts P ng N ops order = some its → its.length = order.length ∧ ∀ (k : Nat) (it : It), its[k]? = some it → order[k]? = some it.idx ∧ ops[it.idx]? = some it.op ∧ cOper P ng N ops [] it.op = some it.ao
  | [], its, h => by simp only [mkIts, Option.some.injEq] at h; subst h; simp
  | i :: r, its, h => by
    unfold mkIts at h
    split at h
    · rename_i o ho
      split at h
      · rename_i ao l hao hl
        simp only [Option.some.injEq] at h; subst h
        obtain ⟨h1, h2⟩ := mkIts_spec r l hl
        refine ⟨by simpa using h1, fun k it hk => ?_⟩
        cases k with
        | zero => simp at hk; subst hk; exact ⟨rfl, ho, hao⟩
        | succ k => simpa using h2 k it (by simpa using hk)
      · cases h
    · cases h

theorem pairsOk_spec {ops : Array Oper} : ∀ (its : List It), pairsOk ops its = true → (∀ (k : Nat) (x : It), its[k]? = some x → selfOk ops x = true) ∧ ∀ (p q : Nat) (x y : It), p < q → its[p]? = some x → its[q]? = some y → pairOk ops x y = true
  | [], _ => ⟨by simp, by simp⟩
  | z :: r, h => by
    simp only [pairsOk, Bool.and_eq_true] at h
    obtain ⟨⟨h1, h2⟩, h3⟩ := h
    obtain ⟨i1, i2⟩ := pairsOk_spec r h3
    refine ⟨fun k x hk => ?_, fun p q x y hpq hx hy => ?_⟩
    · cases k with
      | zero => simp at hk; subst hk; exact h1
      | succ k => exact i1 k x (by simpa using hk)
    · cases q with
      | zero => omega
      | succ q =>
        cases p with
        | zero => simp at hx; subst hx; exact (List.all_eq_true.1 h2) y (List.mem_of_getElem? (by simpa using hy))
        | succ p => exact i2 p q x y (by omega) (by simpa using hx) (by simpa using hy)

theorem withKeep_get {ops : Array Oper} : ∀ (its done : List It) (k : Nat) (it : It), its[k]? = some it → (withKeep ops done its)[k]? = some { it.ao with keep := if isE it.ao.op = true then keepOf ops it (done ++ its.take k) else [] }
  | [], _, k, it, h => by simp at h
  | z :: r, done, k, it, h => by
    cases k with
    | zero => simp at h; subst h; simp [withKeep]
    | succ k =>
      have := withKeep_get (ops := ops) r (done ++ [z]) k it (by simpa using h)
      simpa [withKeep] using this

theorem withKeep_length {ops : Array Oper} : ∀ (its done : List It), (withKeep ops done its).length = its.length
  | [], _ => rfl
  | z :: r, done => by simp [withKeep, withKeep_length r]

theorem keepOf_mem {ops : Array Oper} {q : It} : ∀ (l : List It) (p : It) (x : Operand × Nat), p ∈ l → isL p.ao.op = some x → must ops p.idx q.idx = false → x ∈ keepOf ops q l
  | [], p, x, h, _, _ => by simp at h
  | z :: r, p, x, h, hl, hm => by
    unfold keepOf
    rcases List.mem_cons.1 h with rfl | h
    · simp [hl, hm]
    · have := keepOf_mem r p x h hl hm
      split
      · split
        · exact this
        · exact List.mem_cons_of_mem _ this
      · exact this

theorem keepOk_mem {h h' : Heap} {ρ : Nat → Value} : ∀ (l : List (Operand × Nat)) (x : Operand × Nat), keepOk h h' ρ l → x ∈ l → rdA h (ev ρ x.1) x.2 = rdA h' (ev ρ x.1) x.2
  | [], x, _, hx => by simp at hx
  | z :: r, x, hk, hx => by
    obtain ⟨a, b⟩ := hk
    rcases List.mem_cons.1 hx with rfl | hx
    · exact a
    · exact keepOk_mem r x b hx

/-! ### A walked order -/
structure Tr (C : CallP) (L : List AOper) (ρs : Nat → (Nat → Value)) (hs : Nat → Heap) (vs : Nat → Value) : Prop where
  step : ∀ (k : Nat) (o : AOper), L[k]? = some o → ρs (k + 1) = put (ρs k) o.dst (vs k) ∧ Grows (hs k) (hs (k + 1)) ∧
    ((want (ρs k) o.guard = true ∧ wpOp C o (ρs k) (hs k) (fun v h' => v = vs k ∧ h' = hs (k + 1))) ∨ (want (ρs k) o.guard = false ∧ vs k = undef ∧ hs (k + 1) = hs k))

theorem tr_of {C : CallP} (hD : CallDet C) (hM : CallMono C) : ∀ (L : List AOper) {Q : Post} {ρ : Nat → Value} {h : Heap}, wpOps C L Q ρ h →
    ∃ ρs hs vs, ρs 0 = ρ ∧ hs 0 = h ∧ Tr C L ρs hs vs ∧ Q .normal (ρs L.length) (hs L.length)
  | [], Q, ρ, h, hw => ⟨fun _ => ρ, fun _ => h, fun _ => undef, rfl, rfl, ⟨by simp⟩, hw⟩
  | o :: L, Q, ρ, h, hw => by
    have key : ∀ v h1, Grows h h1 → ((want ρ o.guard = true ∧ wpOp C o ρ h (fun v' h' => v' = v ∧ h' = h1)) ∨ (want ρ o.guard = false ∧ v = undef ∧ h1 = h)) → wpOps C L Q (put ρ o.dst v) h1 →
        ∃ ρs hs vs, ρs 0 = ρ ∧ hs 0 = h ∧ Tr C (o :: L) ρs hs vs ∧ Q .normal (ρs (o :: L).length) (hs (o :: L).length) := by
      intro v h1 hg hstep hrest
      obtain ⟨ρs, hs, vs, e1, e2, e3, e4⟩ := tr_of hD hM L hrest
      refine ⟨fun k => match k with | 0 => ρ | k + 1 => ρs k, fun k => match k with | 0 => h | k + 1 => hs k, fun k => match k with | 0 => v | k + 1 => vs k, rfl, rfl, ⟨fun k o' hk => ?_⟩, by simpa using e4⟩
      cases k with
      | zero =>
        simp at hk; subst hk
        simp only [e1, e2]
        exact ⟨trivial, hg, hstep⟩
      | succ k => exact e3.step k o' (by simpa using hk)
    unfold wpOps at hw
    split at hw
    · rename_i hg
      obtain ⟨v, h1, k1, g1, s1⟩ := wpOp_det hD hM hw
      exact key v h1 g1 (.inl ⟨hg, s1⟩) k1
    · rename_i hg
      exact key undef h (.refl _) (.inr ⟨by simpa using hg, rfl, rfl⟩) hw

def Gh.below (G : Gh) (n : Nat) : Gh := fun b => if b < n then G b else none
theorem Gh.below_le (G : Gh) {m n : Nat} (h : m ≤ n) : (G.below m).le (G.below n) := fun b x hx => by
  unfold Gh.below at *
  split at hx
  · rw [if_pos (by omega)]; exact hx
  · cases hx
theorem Gh.below_le' (G : Gh) (n : Nat) : (G.below n).le G := fun b x hx => by
  unfold Gh.below at hx
  split at hx
  · exact hx
  · cases hx
theorem Gh.below_mono {G G' : Gh} {n : Nat} (h : ∀ b x, b < n → G b = some x → G' b = some x) : (G.below n).le (G'.below n) := fun b x hx => by
  unfold Gh.below at *
  split at hx
  · rename_i hb; rw [if_pos hb]; exact h b x hb hx
  · cases hx

/-- A block of the world that nobody else stands for gets a number. -/
theorem HRel.add {G h w} (H : HRel G h w) {id : Nat} (hid : h.base ≤ id) (hG : G id = none) {o : Blk} {c : Nat} {C : Array Value} {T : TypeId} (hc : h.base ≤ c) (hw : w.heap[c]? = some (.cells C T (0, 0))) (hm : ¬ Mine G h c)
    (he : o.esz = 0) (hv : VRels G o.cells C.toList) : HRel (G.set id (c, 0)) (h.put id o) w where
  low := fun b hb => by obtain ⟨x, hx⟩ := H.low b hb; exact ⟨x, Gh.le_set hG _ _ hx⟩
  size := H.size
  ro := fun b x hb hx => by
    simp only [Heap.put] at hb hx
    rw [if_neg (by omega)] at hx
    exact H.ro b x hb hx
  own := fun b x hb hx => by
    simp only [Heap.put] at hb hx
    split at hx
    · rename_i e
      simp only [Option.some.injEq] at hx
      subst hx; subst e
      have hlen := hv.length
      rw [Array.length_toList] at hlen
      exact ⟨c, 0, C, T, by simp [Gh.set], hc, hw, fun h => absurd he h, by omega, by rw [← hlen, ← Array.length_toList, List.take_length]; exact hv.mono (Gh.le_set hG)⟩
    · obtain ⟨c', k', C', T', h1, h2, h3, h4, h5, h6⟩ := H.own b x hb hx
      exact ⟨c', k', C', T', Gh.le_set hG _ _ h1, h2, h3, h4, h5, h6.mono (Gh.le_set hG)⟩
  inj := fun b b' c1 k1 k2 hb hb' hs hs' e e' => by
    simp only [Heap.put] at hb hb' hs hs'
    simp only [Gh.set] at e e'
    by_cases h1 : b = id <;> by_cases h2 : b' = id
    · rw [h1, h2]
    · exfalso
      rw [if_pos h1] at e
      rw [if_neg h2] at e' hs'
      simp only [Option.some.injEq, Prod.mk.injEq] at e
      exact hm ⟨b', k2, hb', hs', by rw [e']; exact congrArg (fun z => some (z, k2)) e.1.symm⟩
    · exfalso
      rw [if_pos h2] at e'
      rw [if_neg h1] at e hs
      simp only [Option.some.injEq, Prod.mk.injEq] at e'
      exact hm ⟨b, k1, hb, hs, by rw [e]; exact congrArg (fun z => some (z, k1)) e'.1.symm⟩
    · rw [if_neg h1] at e hs
      rw [if_neg h2] at e' hs'
      exact H.inj b b' c1 k1 k2 hb hb' hs hs' e e'

theorem HRel.mono {G G' h w} (H : HRel G h w) (hg : G.le G') : HRel G' h w where
  low := fun b hb => by obtain ⟨x, hx⟩ := H.low b hb; exact ⟨x, hg _ _ hx⟩
  size := H.size
  ro := H.ro
  own := fun b x hb hx => by
    obtain ⟨c', k', C', T', h1, h2, h3, h4, h5, h6⟩ := H.own b x hb hx
    exact ⟨c', k', C', T', hg _ _ h1, h2, h3, h4, h5, h6.mono hg⟩
  inj := fun b b' c k k' hb hb' s s' e e' => by
    obtain ⟨x, hx⟩ := Option.isSome_iff_exists.1 s
    obtain ⟨x', hx'⟩ := Option.isSome_iff_exists.1 s'
    obtain ⟨c1, k1, _, _, g1, _⟩ := H.own b x hb hx
    obtain ⟨c2, k2, _, _, g2, _⟩ := H.own b' x' hb' hx'
    have q1 := hg _ _ g1
    have q2 := hg _ _ g2
    rw [e] at q1; rw [e'] at q2
    simp only [Option.some.injEq, Prod.mk.injEq] at q1 q2
    exact H.inj b b' c k1 k2 hb hb' s s' (by rw [g1, q1.1]) (by rw [g2, q2.1])

/-- The world got a new block that the abstract memory doesn't know. -/
theorem HRel.more {G h w} (H : HRel G h w) (o : Obj) : HRel G h (w.alloc o) where
  low := H.low
  size := by have := H.size; simp; omega
  ro := fun b x hb hx => by
    obtain ⟨C, T, fz, h1, h2⟩ := H.ro b x hb hx
    exact ⟨C, T, fz, by rw [heap_alloc_old (lt_of_heap h1)]; exact h1, h2⟩
  own := fun b x hb hx => by
    obtain ⟨c', k', C', T', h1, h2, h3, h4, h5, h6⟩ := H.own b x hb hx
    exact ⟨c', k', C', T', h1, h2, by rw [heap_alloc_old (lt_of_heap h3)]; exact h3, h4, h5, h6⟩
  inj := H.inj
theorem Step.more (G : Gh) (h : Heap) (w : World) (o : Obj) : Step G h w G h (w.alloc o) where
  le := G.le_refl
  base := rfl
  next := Nat.le_refl _
  os := rfl
  tape := rfl
  output := rfl
  size := by simp
  keeps := fun c hc _ => heap_alloc_old hc
  img := fun c hc => .inl hc

end Go.AM
