/- The abstract machine, part 15: a run on given values, by computation. -/
import Derived.Test.YtkhhdemhlbaboaaAM14
set_option linter.unusedVariables false
set_option linter.unusedSimpArgs false
namespace Go.AM

/-! ### Tables by number -/
inductive Tre (α : Type) where
  | leaf
  | node (v : Option α) (l r : Tre α)

noncomputable def Tre.get {α : Type} (t : Tre α) : Nat → Option α :=
  Tre.rec (motive := fun _ => Nat → Option α) (fun _ => none) (fun v _ _ gl gr n => bif Nat.beq n 0 then v else bif Nat.beq (n % 2) 1 then gl (n / 2) else gr (n / 2 - 1)) t

/-- A path to a number. -/
noncomputable def Tre.path {α : Type} (d : Nat) : Nat → Option α → Tre α :=
  Nat.rec (motive := fun _ => Nat → Option α → Tre α) (fun _ _ => .leaf) (fun _ p n x => bif Nat.beq n 0 then .node x .leaf .leaf else bif Nat.beq (n % 2) 1 then .node none (p (n / 2) x) .leaf else .node none .leaf (p (n / 2 - 1) x)) d

noncomputable def Tre.set {α : Type} (t : Tre α) : Nat → Option α → Tre α :=
  Tre.rec (motive := fun _ => Nat → Option α → Tre α) (fun n x => Tre.path 30 n x) (fun v l r sl sr n x => bif Nat.beq n 0 then .node x l r else bif Nat.beq (n % 2) 1 then .node v (sl (n / 2) x) r else .node v l (sr (n / 2 - 1) x)) t

theorem Tre.get_leaf {α : Type} (n : Nat) : (.leaf : Tre α).get n = none := rfl
theorem Tre.get_node {α : Type} (v : Option α) (l r : Tre α) (n : Nat) : (Tre.node v l r).get n = bif Nat.beq n 0 then v else bif Nat.beq (n % 2) 1 then l.get (n / 2) else r.get (n / 2 - 1) := rfl
theorem Tre.path_succ {α : Type} (d n : Nat) (x : Option α) : (Tre.path (d + 1) n x : Tre α) = bif Nat.beq n 0 then .node x .leaf .leaf else bif Nat.beq (n % 2) 1 then .node none (Tre.path d (n / 2) x) .leaf else .node none .leaf (Tre.path d (n / 2 - 1) x) := rfl
theorem Tre.set_leaf {α : Type} (n : Nat) (x : Option α) : (.leaf : Tre α).set n x = Tre.path 30 n x := rfl
theorem Tre.set_node {α : Type} (v : Option α) (l r : Tre α) (n : Nat) (x : Option α) : (Tre.node v l r).set n x = bif Nat.beq n 0 then .node x l r else bif Nat.beq (n % 2) 1 then .node v (l.set (n / 2) x) r else .node v l (r.set (n / 2 - 1) x) := rfl
theorem beq_zero (k : Nat) : Nat.beq k 0 = decide (k = 0) := by cases k <;> rfl
theorem beq_one (k : Nat) : Nat.beq k 1 = decide (k = 1) := by rcases k with _ | _ | k <;> simp [Nat.beq]

theorem Tre.get_path {α : Type} : ∀ (d n m : Nat) (x : Option α), n + 1 < 2 ^ d → (Tre.path d n x : Tre α).get m = if m = n then x else none
  | 0, _, _, _, h => by simp at h
  | d + 1, n, m, x, h => by
    have hp : 2 ^ (d + 1) = 2 * 2 ^ d := by rw [Nat.pow_succ]; omega
    rw [Tre.path_succ]
    simp only [beq_zero, beq_one]
    by_cases hn : n = 0
    · subst hn
      simp only [decide_true, cond_true, Tre.get_node, beq_zero, Tre.get_leaf]
      by_cases hm : m = 0
      · simp [hm]
      · simp [hm]
    · by_cases ho : n % 2 = 1
      · simp only [hn, ho, decide_true, decide_false, cond_true, cond_false, Tre.get_node, beq_zero, beq_one, Tre.get_leaf]
        rw [Tre.get_path d (n / 2) (m / 2) x (by omega)]
        by_cases hm : m = 0
        · subst hm; simp; intro e; omega
        · by_cases hmo : m % 2 = 1
          · simp only [hm, hmo, decide_true, decide_false, cond_true, cond_false]
            by_cases e : m = n
            · subst e; simp
            · rw [if_neg e, if_neg (by omega)]
          · simp only [hm, hmo, decide_false, cond_false]
            rw [if_neg (by omega)]
      · simp only [hn, ho, decide_false, cond_false, Tre.get_node, beq_zero, beq_one, Tre.get_leaf]
        rw [Tre.get_path d (n / 2 - 1) (m / 2 - 1) x (by omega)]
        by_cases hm : m = 0
        · subst hm; simp; intro e; omega
        · by_cases hmo : m % 2 = 1
          · simp only [hm, hmo, decide_true, decide_false, cond_true, cond_false]
            rw [if_neg (by omega)]
          · simp only [hm, hmo, decide_false, cond_false]
            by_cases e : m = n
            · subst e; simp
            · rw [if_neg e, if_neg (by omega)]

theorem Tre.get_set {α : Type} : ∀ (t : Tre α) (n m : Nat) (x : Option α), n + 1 < 2 ^ 24 → (t.set n x).get m = if m = n then x else t.get m
  | .leaf, n, m, x, h => by rw [Tre.set_leaf, Tre.get_path 30 n m x (by omega)]; rfl
  | .node v l r, n, m, x, h => by
    rw [Tre.set_node]
    simp only [beq_zero, beq_one]
    by_cases hn : n = 0
    · subst hn
      simp only [decide_true, cond_true, Tre.get_node, beq_zero]
      by_cases hm : m = 0
      · simp [hm]
      · simp [hm]
    · by_cases ho : n % 2 = 1
      · simp only [hn, ho, decide_true, decide_false, cond_true, cond_false, Tre.get_node, beq_zero, beq_one]
        rw [Tre.get_set l (n / 2) (m / 2) x (by omega)]
        by_cases hm : m = 0
        · subst hm; simp; intro e; omega
        · by_cases hmo : m % 2 = 1
          · simp only [hm, hmo, decide_true, decide_false, cond_true, cond_false]
            by_cases e : m = n
            · subst e; simp
            · rw [if_neg e, if_neg (by omega)]
          · simp only [hm, hmo, decide_false, cond_false]
            rw [if_neg (by omega)]
      · simp only [hn, ho, decide_false, cond_false, Tre.get_node, beq_zero, beq_one]
        rw [Tre.get_set r (n / 2 - 1) (m / 2 - 1) x (by omega)]
        by_cases hm : m = 0
        · subst hm; simp; intro e; omega
        · by_cases hmo : m % 2 = 1
          · simp only [hm, hmo, decide_true, decide_false, cond_true, cond_false]
            rw [if_neg (by omega)]
          · simp only [hm, hmo, decide_false, cond_false]
            by_cases e : m = n
            · subst e; simp
            · rw [if_neg e, if_neg (by omega)]

/-! ### Memory and frames as tables -/
structure CH where
  t : Tre Blk
  next : Nat
  base : Nat

noncomputable def CH.h (c : CH) : Heap := { get := fun b => c.t.get b, next := c.next, base := c.base }

abbrev Frm := Tre Value
noncomputable def Frm.ρ (f : Frm) : Nat → Value := fun i => (Tre.get f i).getD undef

noncomputable def CH.alloc (c : CH) (o : Blk) : CH := { t := c.t.set c.next (some o), next := c.next + 1, base := c.base }
theorem CH.alloc_h {c : CH} {o : Blk} (h : c.next + 1 < 2 ^ 24) : (c.alloc o).h = c.h.alloc o := by
  unfold CH.alloc CH.h Heap.alloc
  simp only [Heap.mk.injEq, and_true]
  funext b
  rw [Tre.get_set c.t c.next b (some o) h]

def blkOf : Value → Nat
  | .pointer (some a) => a.block
  | .slice (some a) _ _ => a.block
  | _ => 0

/-- The block that an effect may change besides the next one. -/
def touched (q : EOp) (ρ : Nat → Value) : Nat :=
  match q with
  | .store _ x _ => blkOf (ev ρ x)
  | .append _ _ s _ => blkOf (ev ρ s)
  | .copy _ d _ => blkOf (ev ρ d)
  | .clear _ x => blkOf (ev ρ x)

theorem write_touch {h h' : Heap} {b o : Nat} {vs : List Value} (hw : h.write b o vs = some h') : h'.base = h.base ∧ h'.next = h.next ∧ ∀ x, x ≠ b → h'.get x = h.get x := by
  unfold Heap.write at hw
  split at hw
  · split at hw
    · simp only [Option.some.injEq] at hw; subst hw
      exact ⟨rfl, rfl, fun x hx => by simp only [Heap.put]; rw [if_neg hx]⟩
    · cases hw
  · cases hw

theorem eop_touch {q : EOp} {ρ : Nat → Value} {h h' : Heap} {v : Value} (hv : eop q ρ h = some (v, h')) : h'.base = h.base ∧ ∀ x, x ≠ touched q ρ → x ≠ h.next → h'.get x = h.get x := by
  cases q <;> simp only [AM.eop] at hv <;> simp only [touched]
  case store n x y =>
    generalize ev ρ x = xv at *
    (repeat' split at hv) <;> simp only [Option.some.injEq, Prod.mk.injEq, reduceCtorEq] at hv
    rename_i hw
    obtain ⟨_, rfl⟩ := hv
    have := write_touch hw
    exact ⟨this.1, fun x h1 h2 => this.2.2 x h1⟩
  case append esz bytes s x =>
    generalize ev ρ s = sv at *
    generalize ev ρ x = xv at *
    unfold appendA at hv
    (repeat' split at hv) <;> simp only [Option.some.injEq, Prod.mk.injEq, reduceCtorEq] at hv
    all_goals first
      | (obtain ⟨_, rfl⟩ := hv; exact ⟨rfl, fun _ _ _ => rfl⟩)
      | (unfold growA at hv
         simp only [Prod.mk.injEq] at hv
         obtain ⟨_, rfl⟩ := hv
         exact ⟨rfl, fun x h1 h2 => if_neg h2⟩)
      | (rename_i hw
         obtain ⟨_, rfl⟩ := hv
         have := write_touch hw
         exact ⟨this.1, fun x h1 h2 => this.2.2 x h1⟩)
      | (unfold growA at hv
         simp only [Prod.mk.injEq] at hv
         obtain ⟨_, rfl⟩ := hv
         exact ⟨rfl, fun x h1 h2 => (if_neg h2).trans (if_neg h1)⟩)
  case copy esz d s =>
    generalize ev ρ d = dv at *
    (repeat' split at hv) <;> simp only [Option.some.injEq, Prod.mk.injEq, reduceCtorEq] at hv
    all_goals first
      | (obtain ⟨_, rfl⟩ := hv; exact ⟨rfl, fun _ _ _ => rfl⟩)
      | (rename_i hw
         obtain ⟨_, rfl⟩ := hv
         have := write_touch hw
         exact ⟨this.1, fun x h1 h2 => this.2.2 x h1⟩)
  case clear z x =>
    generalize ev ρ x = xv at *
    (repeat' split at hv) <;> simp only [Option.some.injEq, Prod.mk.injEq, reduceCtorEq] at hv
    all_goals first
      | (obtain ⟨_, rfl⟩ := hv; exact ⟨rfl, fun _ _ _ => rfl⟩)
      | (rename_i hw
         obtain ⟨_, rfl⟩ := hv
         have := write_touch hw
         exact ⟨this.1, fun x h1 h2 => this.2.2 x h1⟩)

/-- The memory behind an effect, as a table. -/
noncomputable def CH.after (c : CH) (b : Nat) (h' : Heap) : CH := { t := (c.t.set b (h'.get b)).set c.next (h'.get c.next), next := h'.next, base := c.base }
theorem CH.after_h {c : CH} {b : Nat} {h' : Heap} (hb : b + 1 < 2 ^ 24) (hn : c.next + 1 < 2 ^ 24) (h1 : h'.base = c.base) (h2 : ∀ x, x ≠ b → x ≠ c.next → h'.get x = c.h.get x) : (c.after b h').h = h' := by
  have : (c.after b h').h = { get := fun x => (((c.t.set b (h'.get b)).set c.next (h'.get c.next)).get x), next := h'.next, base := c.base } := rfl
  rw [this]
  obtain ⟨g, n, ba⟩ := h'
  simp only at h1 h2 ⊢
  subst h1
  simp only [Heap.mk.injEq, and_true]
  funext x
  rw [Tre.get_set _ _ _ _ hn, Tre.get_set _ _ _ _ hb]
  by_cases e1 : x = c.next
  · rw [if_pos e1, e1]
  · rw [if_neg e1]
    by_cases e2 : x = b
    · rw [if_pos e2, e2]
    · rw [if_neg e2]; exact (h2 x e2 e1).symm

/-! ### Values that are plainly the same -/
def sameV : Value → Value → Bool
  | .int k a, .int k' b => decide (k = k') && decide (a = b)
  | .bool a, .bool b => a == b
  | .pointer none, .pointer none => true
  | .pointer (some ⟨b, o, none⟩), .pointer (some ⟨b', o', none⟩) => Nat.beq b b' && Nat.beq o o'
  | .slice none l c, .slice none l' c' => Nat.beq l l' && Nat.beq c c'
  | .slice (some ⟨b, o, s⟩) l c, .slice (some ⟨b', o', s'⟩) l' c' => Nat.beq b b' && Nat.beq o o' && decide (s = s') && Nat.beq l l' && Nat.beq c c'
  | _, _ => false
theorem sameV_eq : ∀ {a b : Value}, sameV a b = true → a = b := by
  intro a b h
  unfold sameV at h
  split at h <;> simp_all
def sameVs : List Value → List Value → Bool
  | [], [] => true
  | a :: l, b :: r => sameV a b && sameVs l r
  | _, _ => false
theorem sameVs_eq : ∀ {a b : List Value}, sameVs a b = true → a = b
  | [], [], _ => rfl
  | [], _ :: _, h => by simp [sameVs] at h
  | _ :: _, [], h => by simp [sameVs] at h
  | a :: l, b :: r, h => by
    simp only [sameVs, Bool.and_eq_true] at h
    rw [sameV_eq h.1, sameVs_eq h.2]
def keepC (h h' : Heap) (ρ : Nat → Value) : List (Operand × Nat) → Bool
  | [] => true
  | (x, n) :: r => (match rdA h (ev ρ x) n, rdA h' (ev ρ x) n with
    | some a, some b => sameVs a b
    | none, none => true
    | _, _ => false) && keepC h h' ρ r
theorem keepC_ok {h h' : Heap} {ρ : Nat → Value} : ∀ {l : List (Operand × Nat)}, keepC h h' ρ l = true → keepOk h h' ρ l
  | [], _ => trivial
  | (x, n) :: r, hk => by
    simp only [keepC, Bool.and_eq_true] at hk
    refine ⟨?_, keepC_ok hk.2⟩
    have := hk.1
    split at this
    · rename_i e1 e2; rw [e1, e2, sameVs_eq this]
    · rename_i e1 e2; rw [e1, e2]
    · cases this

/-! ### The run -/
abbrev RunP := FuncId → List Value → CH → Option (Value × CH)

def small (n : Nat) : Bool := Nat.blt (n + 1) 16777216
theorem small_lt {n : Nat} (h : small n = true) : n + 1 < 2 ^ 24 := by
  unfold small at h
  rw [Nat.blt_eq] at h
  exact h

noncomputable def runOp (C : RunP) (o : AOper) (ρ : Nat → Value) (c : CH) : Option (Value × CH) :=
  match o.op with
  | .p q => match pop q ρ with
    | some v => some (v, c)
    | none => none
  | .l n agg x => match loadA c.h n agg (ev ρ x) with
    | some v => some (v, c)
    | none => none
  | .a q => match alop q ρ with
    | some (cs, f) => bif small c.next then some (f c.next, c.alloc { cells := cs, esz := 0 }) else none
    | none => none
  | .e q => match eop q ρ c.h with
    | some (v, h') => bif small c.next && small (touched q ρ) && keepC c.h h' ρ o.keep then some (v, c.after (touched q ρ) h') else none
    | none => none
  | .c f args => match ev ρ f with
    | .func (.func fid) first captured => match C fid (first.toList ++ args.map (ev ρ) ++ captured.toList) c with
      | some (v, c') => bif keepC c.h c'.h ρ o.keep then some (v, c') else none
      | none => none
    | _ => none
  | .i x tbl args => match ev ρ x with
    | .iface t v => match tbl.lookup t with
      | some fid => match C fid (v :: args.map (ev ρ)) c with
        | some (v, c') => bif keepC c.h c'.h ρ o.keep then some (v, c') else none
        | none => none
      | none => none
    | _ => none

def RunOk (C : RunP) (D : CallP) : Prop := ∀ f args c v c', C f args c = some (v, c') → ∀ R : Value → Heap → Prop, R v c'.h → D f args c.h R

theorem runOp_ok {C : RunP} {D : CallP} (hC : RunOk C D) {o : AOper} {ρ : Nat → Value} {c c' : CH} {v : Value} (h : runOp C o ρ c = some (v, c')) {K : Value → Heap → Prop} (hk : K v c'.h) : wpOp D o ρ c.h K := by
  obtain ⟨dst, guard, op, keep⟩ := o
  cases op with
  | p q =>
    simp only [runOp, wpOp] at *
    cases e : pop q ρ with
    | none => simp only [e] at h; cases h
    | some u => simp only [e, Option.some.injEq, Prod.mk.injEq] at h ⊢; obtain ⟨rfl, rfl⟩ := h; exact hk
  | l n agg x =>
    simp only [runOp, wpOp] at *
    cases e : loadA c.h n agg (ev ρ x) with
    | none => simp only [e] at h; cases h
    | some u => simp only [e, Option.some.injEq, Prod.mk.injEq] at h ⊢; obtain ⟨rfl, rfl⟩ := h; exact hk
  | a q =>
    simp only [runOp, wpOp] at *
    cases e : alop q ρ with
    | none => simp only [e] at h; cases h
    | some u =>
      obtain ⟨cs, f⟩ := u
      simp only [e] at h ⊢
      cases es : small c.next with
      | false => simp only [es, cond_false] at h; cases h
      | true =>
        simp only [es, cond_true, Option.some.injEq, Prod.mk.injEq] at h
        obtain ⟨rfl, rfl⟩ := h
        rw [CH.alloc_h (small_lt es)] at hk
        exact hk
  | e q =>
    simp only [runOp, wpOp] at *
    cases e : eop q ρ c.h with
    | none => simp only [e] at h; cases h
    | some u =>
      obtain ⟨u, h'⟩ := u
      simp only [e] at h ⊢
      cases es : small c.next && small (touched q ρ) && keepC c.h h' ρ keep with
      | false => simp only [es, cond_false] at h; cases h
      | true =>
        simp only [es, cond_true, Option.some.injEq, Prod.mk.injEq] at h
        obtain ⟨rfl, rfl⟩ := h
        simp only [Bool.and_eq_true] at es
        have ht := eop_touch e
        rw [CH.after_h (small_lt es.1.2) (small_lt es.1.1) ht.1 ht.2] at hk
        exact ⟨keepC_ok es.2, hk⟩
  | c f args =>
    simp only [runOp, wpOp] at *
    split at h
    · rename_i fid first captured hf
      simp only [hf]
      split at h
      · rename_i u c1 e
        cases es : keepC c.h c1.h ρ keep with
        | false => simp only [es, cond_false] at h; cases h
        | true =>
          simp only [es, cond_true, Option.some.injEq, Prod.mk.injEq] at h
          obtain ⟨rfl, rfl⟩ := h
          exact hC _ _ _ _ _ e _ ⟨keepC_ok es, hk⟩
      · cases h
    · cases h
  | i x tbl args =>
    simp only [runOp, wpOp] at *
    split at h
    · rename_i hx
      simp only [hx]
      split at h
      · rename_i ht
        simp only [ht]
        split at h
        · rename_i u c1 e
          cases es : keepC c.h c1.h ρ keep with
          | false => simp only [es, cond_false] at h; cases h
          | true =>
            simp only [es, cond_true, Option.some.injEq, Prod.mk.injEq] at h
            obtain ⟨rfl, rfl⟩ := h
            exact hC _ _ _ _ _ e _ ⟨keepC_ok es, hk⟩
        · cases h
      · cases h
    · cases h

noncomputable def Frm.put (f : Frm) (dst : Option Nat) (v : Value) : Option Frm :=
  match dst with
  | some d => bif Nat.blt (d + 1) 1024 then some (Tre.set f d (some v)) else none
  | none => some f
theorem Frm.put_ρ {f f' : Frm} {dst : Option Nat} {v : Value} (h : f.put dst v = some f') : f'.ρ = AM.put f.ρ dst v := by
  unfold Frm.put at h
  split at h
  · rename_i d
    cases e : Nat.blt (d + 1) 1024 with
    | false => simp only [e, cond_false] at h; cases h
    | true =>
      simp only [e, cond_true, Option.some.injEq] at h
      subst h
      rw [Nat.blt_eq] at e
      funext i
      unfold Frm.ρ AM.put
      simp only
      rw [Tre.get_set f d i (some v) (by omega)]
      by_cases hi : i = d
      · rw [if_pos hi, if_pos hi]; rfl
      · rw [if_neg hi, if_neg hi]
  · simp only [Option.some.injEq] at h; subst h; rfl

noncomputable def runOps (C : RunP) (l : List AOper) : Frm → CH → Option (Frm × CH) :=
  List.rec (motive := fun _ => Frm → CH → Option (Frm × CH)) (fun f c => some (f, c)) (fun o _ go f c => match want f.ρ o.guard with
    | true => match runOp C o f.ρ c with
      | some (v, c') => match f.put o.dst v with
        | some f' => go f' c'
        | none => none
      | none => none
    | false => match f.put o.dst undef with
      | some f' => go f' c
      | none => none) l
theorem runOps_nil {C : RunP} {f : Frm} {c : CH} : runOps C [] f c = some (f, c) := rfl
theorem runOps_cons {C : RunP} {o : AOper} {r : List AOper} {f : Frm} {c : CH} : runOps C (o :: r) f c = match want f.ρ o.guard with
    | true => match runOp C o f.ρ c with
      | some (v, c') => match f.put o.dst v with
        | some f' => runOps C r f' c'
        | none => none
      | none => none
    | false => match f.put o.dst undef with
      | some f' => runOps C r f' c
      | none => none := rfl

theorem runOps_ok {C : RunP} {D : CallP} (hC : RunOk C D) : ∀ {l : List AOper} {f f' : Frm} {c c' : CH}, runOps C l f c = some (f', c') → ∀ {Q : Post}, Q .normal f'.ρ c'.h → wpOps D l Q f.ρ c.h
  | [], f, f', c, c', h, Q, hq => by
    simp only [runOps_nil, Option.some.injEq, Prod.mk.injEq] at h
    obtain ⟨rfl, rfl⟩ := h
    exact hq
  | o :: r, f, f', c, c', h, Q, hq => by
    rw [runOps_cons] at h
    unfold wpOps
    split at h
    · rename_i hg
      rw [if_pos hg]
      split at h
      · rename_i v c1 e
        split at h
        · rename_i f1 ef
          refine runOp_ok hC e ?_
          rw [← Frm.put_ρ ef]
          exact runOps_ok hC h hq
        · cases h
      · cases h
    · rename_i hg
      rw [if_neg (by simp [hg])]
      split at h
      · rename_i f1 ef
        rw [← Frm.put_ρ ef]
        exact runOps_ok hC h hq
      · cases h

noncomputable def loopR (body : Frm → CH → Option (AExit × Frm × CH)) (n : Nat) : Frm → CH → Option (AExit × Frm × CH) :=
  Nat.rec (motive := fun _ => Frm → CH → Option (AExit × Frm × CH)) (fun _ _ => none) (fun _ go f c => match body f c with
    | some (.normal, f', c') => go f' c'
    | r => r) n
theorem loopR_succ {body : Frm → CH → Option (AExit × Frm × CH)} {n : Nat} {f : Frm} {c : CH} : loopR body (n + 1) f c = match body f c with
    | some (.normal, f', c') => loopR body n f' c'
    | r => r := rfl

noncomputable def runC (C : RunP) (a : ACode) : Frm → CH → Option (AExit × Frm × CH) :=
  ACode.rec (motive := fun _ => Frm → CH → Option (AExit × Frm × CH))
    (fun f c => some (.normal, f, c))
    (fun ops f c => match runOps C ops f c with
      | some (f', c') => some (.normal, f', c')
      | none => none)
    (fun _ _ a b f c => match a f c with
      | some (.normal, f', c') => b f' c'
      | r => r)
    (fun x _ _ a b f c => match ev f.ρ x with
      | .bool true => a f c
      | .bool false => b f c
      | _ => none)
    (fun id _ a f c => match a f c with
      | some (.exit i, f', c') => bif Nat.beq i id then some (.normal, f', c') else some (.exit i, f', c')
      | r => r)
    (fun _ a f c => loopR a 100000 f c)
    (fun id f c => some (.exit id, f, c))
    (fun f c => some (.ret, f, c)) a
section
variable {C : RunP} {f : Frm} {c : CH}
theorem runC_skip : runC C .skip f c = some (.normal, f, c) := rfl
theorem runC_exit {id : Nat} : runC C (.exit id) f c = some (.exit id, f, c) := rfl
theorem runC_ret : runC C .ret f c = some (.ret, f, c) := rfl
theorem runC_region {ops : List AOper} : runC C (.region ops) f c = match runOps C ops f c with
    | some (f', c') => some (.normal, f', c')
    | none => none := rfl
theorem runC_seq {a b : ACode} : runC C (.seq a b) f c = match runC C a f c with
    | some (.normal, f', c') => runC C b f' c'
    | r => r := rfl
theorem runC_cond {x : Operand} {a b : ACode} : runC C (.cond x a b) f c = match ev f.ρ x with
    | .bool true => runC C a f c
    | .bool false => runC C b f c
    | _ => none := rfl
theorem runC_block {id : Nat} {a : ACode} : runC C (.block id a) f c = match runC C a f c with
    | some (.exit i, f', c') => bif Nat.beq i id then some (.normal, f', c') else some (.exit i, f', c')
    | r => r := rfl
theorem runC_loop {a : ACode} : runC C (.loop a) f c = loopR (runC C a) 100000 f c := rfl
end

theorem loopR_ok {body : Frm → CH → Option (AExit × Frm × CH)} {wp : Post → (Nat → Value) → Heap → Prop} (hb : ∀ f c e f' c', body f c = some (e, f', c') → ∀ Q : Post, Q e f'.ρ c'.h → wp Q f.ρ c.h) :
    ∀ n {f : Frm} {c : CH} {e : AExit} {f' : Frm} {c' : CH}, loopR body n f c = some (e, f', c') → ∀ {Q : Post}, Q e f'.ρ c'.h → loopN wp n Q f.ρ c.h
  | 0, f, c, e, f', c', h, Q, hq => by cases h
  | n + 1, f, c, e, f', c', h, Q, hq => by
    rw [loopR_succ] at h
    unfold loopN
    split at h
    · rename_i f1 c1 e1
      exact hb _ _ _ _ _ e1 _ (loopR_ok hb n h hq)
    · rename_i hn
      refine hb _ _ _ _ _ h _ ?_
      cases e with
      | normal => exact absurd h (hn _ _)
      | exit i => exact hq
      | ret => exact hq

theorem runC_ok {C : RunP} {D : CallP} (hC : RunOk C D) : ∀ (a : ACode) {f : Frm} {c : CH} {e : AExit} {f' : Frm} {c' : CH}, runC C a f c = some (e, f', c') → ∀ {Q : Post}, Q e f'.ρ c'.h → wpC D a Q f.ρ c.h
  | .skip, f, c, e, f', c', h, Q, hq => by simp only [runC_skip, Option.some.injEq, Prod.mk.injEq] at h; obtain ⟨rfl, rfl, rfl⟩ := h; exact hq
  | .exit id, f, c, e, f', c', h, Q, hq => by simp only [runC_exit, Option.some.injEq, Prod.mk.injEq] at h; obtain ⟨rfl, rfl, rfl⟩ := h; exact hq
  | .ret, f, c, e, f', c', h, Q, hq => by simp only [runC_ret, Option.some.injEq, Prod.mk.injEq] at h; obtain ⟨rfl, rfl, rfl⟩ := h; exact hq
  | .region ops, f, c, e, f', c', h, Q, hq => by
    rw [runC_region] at h
    split at h
    · rename_i f1 c1 e1
      simp only [Option.some.injEq, Prod.mk.injEq] at h; obtain ⟨rfl, rfl, rfl⟩ := h
      exact runOps_ok hC e1 hq
    · cases h
  | .seq a b, f, c, e, f', c', h, Q, hq => by
    rw [runC_seq] at h
    unfold wpC
    split at h
    · rename_i f1 c1 e1
      exact runC_ok hC a e1 (Q := seqP (wpC D b Q) Q) (runC_ok hC b h hq)
    · rename_i hn
      refine runC_ok hC a h (Q := seqP (wpC D b Q) Q) ?_
      cases e with
      | normal => exact absurd h (hn _ _)
      | exit i => exact hq
      | ret => exact hq
  | .cond x a b, f, c, e, f', c', h, Q, hq => by
    rw [runC_cond] at h
    unfold wpC
    split at h
    · rename_i hx; rw [hx]; exact runC_ok hC a h hq
    · rename_i hx; rw [hx]; exact runC_ok hC b h hq
    · cases h
  | .block id a, f, c, e, f', c', h, Q, hq => by
    rw [runC_block] at h
    unfold wpC
    split at h
    · rename_i i f1 c1 e1
      refine runC_ok hC a e1 (Q := blockP id Q) ?_
      have hb : Nat.beq i id = decide (i = id) := by
        cases hbe : Nat.beq i id with
        | true => rw [decide_eq_true (Nat.eq_of_beq_eq_true hbe)]
        | false => rw [decide_eq_false (Nat.ne_of_beq_eq_false hbe)]
      rw [hb] at h
      simp only [blockP]
      by_cases hi : i = id
      · simp only [hi, decide_true, cond_true, Option.some.injEq, Prod.mk.injEq] at h
        obtain ⟨rfl, rfl, rfl⟩ := h
        rw [if_pos hi]; exact hq
      · simp only [hi, decide_false, cond_false, Option.some.injEq, Prod.mk.injEq] at h
        obtain ⟨rfl, rfl, rfl⟩ := h
        rw [if_neg hi]; exact hq
    · rename_i hn
      refine runC_ok hC a h (Q := blockP id Q) ?_
      cases e with
      | normal => exact hq
      | exit i => exact absurd h (hn _ _ _)
      | ret => exact hq
  | .loop a, f, c, e, f', c', h, Q, hq => by
    rw [runC_loop] at h
    exact ⟨_, loopR_ok (fun f c e f' c' hh Q hq => runC_ok hC a hh hq) _ h hq⟩

noncomputable def frameOf : Nat → List Value → Frm → Frm
  | _, [], f => f
  | i, v :: l, f => frameOf (i + 1) l (Tre.set f i (some v))
theorem frameOf_ρ : ∀ (l : List Value) (i : Nat) (f : Frm) (k : Nat), i + l.length < 1023 → (frameOf i l f).ρ k = if i ≤ k ∧ k < i + l.length then l.getD (k - i) undef else f.ρ k
  | [], i, f, k, h => by rw [if_neg (by simp)]; rfl
  | v :: l, i, f, k, h => by
    simp only [List.length_cons] at h
    unfold frameOf
    rw [frameOf_ρ l (i + 1) _ k (by omega)]
    by_cases h1 : i + 1 ≤ k ∧ k < i + 1 + l.length
    · rw [if_pos h1, if_pos (by simp; omega)]
      rw [show k - i = k - (i + 1) + 1 by omega]; rfl
    · rw [if_neg h1]
      unfold Frm.ρ
      rw [Tre.get_set f i k (some v) (by omega)]
      by_cases h2 : k = i
      · subst h2; simp
      · rw [if_neg h2, if_neg (by simp; omega)]

/-- A known result of a call without arguments. -/
def knownC (args : List Value) (l : List (List Value × Value)) : Option Value :=
  match args, l with
  | [], ([], v) :: _ => some v
  | _, _ => none
theorem knownC_mem {args : List Value} {l : List (List Value × Value)} {v : Value} (h : knownC args l = some v) : (args, v) ∈ l := by
  unfold knownC at h
  split at h
  · simp only [Option.some.injEq] at h; subst h; simp
  · cases h

noncomputable def runCall (T : FuncId → Option AFn) (n : Nat) : RunP :=
  Nat.rec (motive := fun _ => RunP) (fun _ _ _ => none) (fun _ go f args c => match T f with
    | some fn => match knownC args fn.known with
      | some v => some (v, c)
      | none => bif Nat.ble args.length fn.n && Nat.blt args.length 1000 then (match runC go fn.body (frameOf 0 args .leaf) c with
        | some (.exit _, _, _) => none
        | some (_, f', c') => (match resList f'.ρ c'.h fn.results with
          | some vs => some (oneOrTuple vs, c')
          | none => none)
        | none => none) else none
    | none => none) n
theorem runCall_succ {T : FuncId → Option AFn} {n : Nat} {f : FuncId} {args : List Value} {c : CH} : runCall T (n + 1) f args c = match T f with
    | some fn => match knownC args fn.known with
      | some v => some (v, c)
      | none => bif Nat.ble args.length fn.n && Nat.blt args.length 1000 then (match runC (runCall T n) fn.body (frameOf 0 args .leaf) c with
        | some (.exit _, _, _) => none
        | some (_, f', c') => (match resList f'.ρ c'.h fn.results with
          | some vs => some (oneOrTuple vs, c')
          | none => none)
        | none => none) else none
    | none => none := rfl

theorem runCall_ok {T : FuncId → Option AFn} : ∀ n, RunOk (runCall T n) (wpCall T n)
  | 0 => fun f args c v c' h => by cases h
  | n + 1 => fun f args c v c' h R hr => by
    rw [runCall_succ] at h
    unfold wpCall
    split at h
    · rename_i fn hf
      simp only [hf]
      cases ek : knownC args fn.known with
      | some v1 =>
        simp only [ek, Option.some.injEq, Prod.mk.injEq] at h
        obtain ⟨rfl, rfl⟩ := h
        exact .inl ⟨_, knownC_mem ek, hr⟩
      | none =>
      simp only [ek] at h
      cases eb : Nat.ble args.length fn.n && Nat.blt args.length 1000 with
      | false => simp only [eb, cond_false] at h; cases h
      | true =>
        simp only [eb, cond_true] at h
        simp only [Bool.and_eq_true, Nat.ble_eq, Nat.blt_eq] at eb
        refine .inr ⟨eb.1, ?_⟩
        have hρ : (frameOf 0 args .leaf).ρ = enter args := by
          funext k
          rw [frameOf_ρ args 0 .leaf k (by omega)]
          unfold enter
          by_cases hk : k < args.length
          · rw [if_pos (by omega)]; rfl
          · rw [if_neg (by omega), List.getD_eq_getElem?_getD, List.getElem?_eq_none (by omega)]
            simp [Frm.ρ, Tre.get]
        rw [← hρ]
        split at h
        · cases h
        · rename_i e f' c1 hne e1
          split at h
          · rename_i vs hvs
            simp only [Option.some.injEq, Prod.mk.injEq] at h
            obtain ⟨rfl, rfl⟩ := h
            refine runC_ok (runCall_ok n) fn.body e1 ?_
            cases e with
            | normal => simp only [endP, hvs]; exact hr
            | exit i => exact (hne _ rfl).elim
            | ret => simp only [endP, hvs]; exact hr
          · cases h
        · cases h
    · cases h

/-- Memory in which nothing is known. -/
def bare (ng : Nat) : CH := { t := .leaf, next := ng, base := ng }

def yields (v : Value) : Option (Value × CH) → Bool
  | some (u, _) => sameV u v
  | none => false

open Go.RowKit in
/-- What a run by computation comes to is known. -/
theorem known_of_run {P : Program} {ng : Nat} {T : FuncId → Option AFn} (hs : ∀ n, CallSound P ng (wpCall T n)) {n : Nat} {f : FuncId} {args : List Value} {v : Value} (hr : yields v (runCall T n f args (bare ng)) = true) (hc : constOk v = true) (hcv : ∀ G v', VRel G v v' → v' = v)
    (ha : args.all constOk = true) (hx : ∀ G args', VRels G args args' → args' = args) : KnownOk P ng f args v where
  closed := fun G => VRel.const hc
  exact_ := hx
  calls := fun w hw => by
    cases e : runCall T n f args (bare ng) with
    | none => simp [e, yields] at hr
    | some u =>
      obtain ⟨u, c'⟩ := u
      simp only [e, yields] at hr
      have := sameV_eq hr
      subst this
      have hcall := runCall_ok n f args (bare ng) u c' e (fun x _ => x = u) rfl
      let G : Gh := fun b => if b < ng then some (b, 0) else none
      have hget : ∀ b, (bare ng).h.get b = none := fun b => by rfl
      have H : HRel G (bare ng).h w := {
        low := fun b hb => ⟨0, if_pos hb⟩
        size := hw
        ro := fun b o _ ho => by rw [hget] at ho; cases ho
        own := fun b o _ ho => by rw [hget] at ho; cases ho
        inj := fun b b' c k k' _ _ hs => by rw [hget] at hs; cases hs }
      have F : Fresh G (bare ng).h := ⟨Nat.le_refl _, fun b hb => ⟨if_neg (by have : ng ≤ b := hb; omega), hget b⟩⟩
      have hargs : VRels G args args := by
        clear hcall e
        induction args with
        | nil => exact .nil
        | cons a l ih =>
          simp only [List.all_cons, Bool.and_eq_true] at ha
          refine .cons (VRel.const ha.1) (ih ha.2 ?_)
          intro G' a' h'
          have := hx G' (a :: a') (.cons (VRel.const ha.1) h')
          simpa using this
      obtain ⟨_, hcalls⟩ := hs n f args (bare ng).h _ hcall G w args H F (Nat.le_refl _) hargs
      refine hcalls.mono fun e w' he => ?_
      obtain ⟨v1, v', h', G', rfl, rfl, hv, _, _, st⟩ := he
      refine ⟨?_, ⟨st.os, st.tape, st.output, st.size, fun k hk => st.keeps k hk (fun ⟨b, _, _, hb, _⟩ => by rw [hget] at hb; cases hb)⟩⟩
      rw [hcv _ _ hv]

end Go.AM
