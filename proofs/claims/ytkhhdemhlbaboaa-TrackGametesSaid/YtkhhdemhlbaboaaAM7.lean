/- The abstract machine, part 7: a run is one run; a region whose order is open. -/
import Derived.Test.YtkhhdemhlbaboaaAM6
set_option linter.unusedVariables false
set_option linter.unusedSimpArgs false
namespace Go.AM

/-! ### A run comes to one end, and memory only grows -/
def Wf (h : Heap) : Prop := ∀ b, h.next ≤ b → h.get b = none

structure Grows (h h' : Heap) : Prop where
  base : h'.base = h.base
  next : h.next ≤ h'.next
  wf : Wf h → Wf h'

theorem Grows.refl (h : Heap) : Grows h h := ⟨rfl, Nat.le_refl _, id⟩
theorem Grows.trans {a b c : Heap} (h : Grows a b) (k : Grows b c) : Grows a c := ⟨k.base.trans h.base, Nat.le_trans h.next k.next, fun w => k.wf (h.wf w)⟩
theorem Grows.alloc (h : Heap) (o : Blk) : Grows h (h.alloc o) := ⟨rfl, by simp [Heap.alloc], fun w b hb => by
  simp only [Heap.alloc] at *
  rw [if_neg (by omega)]
  exact w b (by omega)⟩
theorem Grows.kill (h : Heap) (b : Nat) : Grows h (h.kill b) := ⟨rfl, Nat.le_refl _, fun w x hx => by
  simp only [Heap.kill] at *
  split
  · rfl
  · exact w x hx⟩
theorem Grows.write {h h' : Heap} {b off : Nat} {vs : List Value} (hw : h.write b off vs = some h') : Grows h h' := by
  unfold Heap.write at hw
  split at hw
  · rename_i o ho
    split at hw
    · simp only [Option.some.injEq] at hw; subst hw
      refine ⟨rfl, Nat.le_refl _, fun w x hx => ?_⟩
      simp only [Heap.put] at *
      split
      · rename_i e; subst e; rw [w x hx] at ho; cases ho
      · exact w x hx
    · cases hw
  · cases hw
theorem Grows.grow {h h' : Heap} {esz n : Nat} {cells : List Value} {v : Value} (hw : growA h esz cells n = (v, h')) : Grows h h' := by
  unfold growA at hw
  simp only [Prod.mk.injEq] at hw
  rw [← hw.2]
  exact .alloc _ _

theorem Grows.eop {p : EOp} {ρ : Nat → Value} {h h' : Heap} {v : Value} (hv : eop p ρ h = some (v, h')) : Grows h h' := by
  cases p <;> simp only [AM.eop] at hv
  case store n x y =>
    (repeat' split at hv) <;> simp only [Option.some.injEq, Prod.mk.injEq, reduceCtorEq] at hv
    rename_i hw
    obtain ⟨_, rfl⟩ := hv
    exact .write hw
  case append esz bytes s x =>
    unfold appendA at hv
    (repeat' split at hv) <;> simp only [Option.some.injEq, Prod.mk.injEq, reduceCtorEq] at hv
    all_goals first
      | (obtain ⟨_, rfl⟩ := hv; exact .refl _)
      | exact .grow hv
      | (rename_i hw; obtain ⟨_, rfl⟩ := hv; exact .write hw)
      | exact (Grows.kill _ _).trans (.grow hv)
  case copy esz d s =>
    (repeat' split at hv) <;> simp only [Option.some.injEq, Prod.mk.injEq, reduceCtorEq] at hv
    all_goals first
      | (obtain ⟨_, rfl⟩ := hv; exact .refl _)
      | (rename_i hw; obtain ⟨_, rfl⟩ := hv; exact .write hw)
  case clear z x =>
    (repeat' split at hv) <;> simp only [Option.some.injEq, Prod.mk.injEq, reduceCtorEq] at hv
    all_goals first
      | (obtain ⟨_, rfl⟩ := hv; exact .refl _)
      | (rename_i hw; obtain ⟨_, rfl⟩ := hv; exact .write hw)

def CallDet (C : CallP) : Prop := ∀ f args h R, C f args h R → ∃ v h', R v h' ∧ Grows h h' ∧ C f args h (fun v1 h1 => v1 = v ∧ h1 = h')
def CallMono (C : CallP) : Prop := ∀ f args h (R R' : Value → Heap → Prop), (∀ v h, R v h → R' v h) → C f args h R → C f args h R'

theorem wpOp_det {C : CallP} (hD : CallDet C) (hM : CallMono C) {o : AOper} {ρ : Nat → Value} {h : Heap} {K : Value → Heap → Prop} (hw : wpOp C o ρ h K) :
    ∃ v h', K v h' ∧ Grows h h' ∧ wpOp C o ρ h (fun v1 h1 => v1 = v ∧ h1 = h') := by
  obtain ⟨dst, guard, op, keep⟩ := o
  cases op with
  | p q =>
    simp only [wpOp] at *
    cases e : pop q ρ with
    | none => simp only [e] at hw
    | some v => simp only [e] at hw ⊢; exact ⟨v, h, hw, .refl _, rfl, rfl⟩
  | l n agg x =>
    simp only [wpOp] at *
    cases e : loadA h n agg (ev ρ x) with
    | none => simp only [e] at hw
    | some v => simp only [e] at hw ⊢; exact ⟨v, h, hw, .refl _, rfl, rfl⟩
  | a q =>
    simp only [wpOp] at *
    cases e : alop q ρ with
    | none => simp only [e] at hw
    | some v => simp only [e] at hw ⊢; exact ⟨_, _, hw, .alloc _ _, rfl, rfl⟩
  | e q =>
    simp only [wpOp] at *
    cases e : eop q ρ h with
    | none => simp only [e] at hw
    | some v => simp only [e] at hw ⊢; exact ⟨_, _, hw.2, .eop e, hw.1, rfl, rfl⟩
  | c f args =>
    simp only [wpOp] at *
    split at hw
    · obtain ⟨v, h', ⟨r1, r2⟩, g, hs⟩ := hD _ _ _ _ hw
      exact ⟨v, h', r2, g, hM _ _ _ _ _ (fun v1 h1 ⟨e1, e2⟩ => by subst e1; subst e2; exact ⟨r1, rfl, rfl⟩) hs⟩
    · exact hw.elim
  | i x tbl args =>
    simp only [wpOp] at *
    split at hw
    · split at hw
      · obtain ⟨v, h', ⟨r1, r2⟩, g, hs⟩ := hD _ _ _ _ hw
        exact ⟨v, h', r2, g, hM _ _ _ _ _ (fun v1 h1 ⟨e1, e2⟩ => by subst e1; subst e2; exact ⟨r1, rfl, rfl⟩) hs⟩
      · exact hw.elim
    · exact hw.elim

def IsPost (e : AExit) (ρ : Nat → Value) (h : Heap) : Post := fun e1 ρ1 h1 => e1 = e ∧ ρ1 = ρ ∧ h1 = h

theorem wpOps_det {C : CallP} (hD : CallDet C) (hM : CallMono C) : ∀ (l : List AOper) {Q : Post} {ρ : Nat → Value} {h : Heap}, wpOps C l Q ρ h → ∃ e ρ' h', Q e ρ' h' ∧ Grows h h' ∧ wpOps C l (IsPost e ρ' h') ρ h
  | [], Q, ρ, h, hw => ⟨.normal, ρ, h, hw, .refl _, rfl, rfl, rfl⟩
  | o :: r, Q, ρ, h, hw => by
    unfold wpOps at hw
    split at hw
    · rename_i hg
      obtain ⟨v, h1, k1, g1, s1⟩ := wpOp_det hD hM hw
      obtain ⟨e, ρ', h', q, g2, s2⟩ := wpOps_det hD hM r k1
      refine ⟨e, ρ', h', q, g1.trans g2, ?_⟩
      unfold wpOps
      rw [if_pos hg]
      exact wpOp_mono hM (fun v2 h2 ⟨e1, e2⟩ => by subst e1; subst e2; exact s2) s1
    · rename_i hg
      obtain ⟨e, ρ', h', q, g2, s2⟩ := wpOps_det hD hM r hw
      refine ⟨e, ρ', h', q, g2, ?_⟩
      unfold wpOps
      rw [if_neg hg]
      exact s2

theorem wpC_det {C : CallP} (hD : CallDet C) (hM : CallMono C) : ∀ (c : ACode) {Q : Post} {ρ : Nat → Value} {h : Heap}, wpC C c Q ρ h → ∃ e ρ' h', Q e ρ' h' ∧ Grows h h' ∧ wpC C c (IsPost e ρ' h') ρ h
  | .skip, Q, ρ, h, hw => ⟨_, _, _, hw, .refl _, rfl, rfl, rfl⟩
  | .exit i, Q, ρ, h, hw => ⟨_, _, _, hw, .refl _, rfl, rfl, rfl⟩
  | .ret, Q, ρ, h, hw => ⟨_, _, _, hw, .refl _, rfl, rfl, rfl⟩
  | .region ops, Q, ρ, h, hw => wpOps_det hD hM ops hw
  | .seq a b, Q, ρ, h, hw => by
    obtain ⟨e, ρ', h', q, g, s⟩ := wpC_det hD hM a hw
    cases e with
    | normal =>
      obtain ⟨e2, ρ2, h2, q2, g2, s2⟩ := wpC_det hD hM b q
      exact ⟨e2, ρ2, h2, q2, g.trans g2, wpC_mono hM a (fun e1 ρ1 h1 ⟨x1, x2, x3⟩ => by subst x1; subst x2; subst x3; exact s2) _ _ s⟩
    | exit i => exact ⟨_, ρ', h', q, g, wpC_mono hM a (fun e1 ρ1 h1 ⟨x1, x2, x3⟩ => by subst x1; subst x2; subst x3; exact ⟨rfl, rfl, rfl⟩) _ _ s⟩
    | ret => exact ⟨_, ρ', h', q, g, wpC_mono hM a (fun e1 ρ1 h1 ⟨x1, x2, x3⟩ => by subst x1; subst x2; subst x3; exact ⟨rfl, rfl, rfl⟩) _ _ s⟩
  | .cond c a b, Q, ρ, h, hw => by
    simp only [wpC] at *
    split at hw
    · rename_i t e
      split at hw
      · rename_i ht; obtain ⟨e2, ρ2, h2, q2, g2, s2⟩ := wpC_det hD hM a hw; exact ⟨e2, ρ2, h2, q2, g2, by simp only [ht, if_true]; exact s2⟩
      · rename_i ht; obtain ⟨e2, ρ2, h2, q2, g2, s2⟩ := wpC_det hD hM b hw; exact ⟨e2, ρ2, h2, q2, g2, by rw [if_neg ht]; exact s2⟩
    · exact hw.elim
  | .block id c, Q, ρ, h, hw => by
    obtain ⟨e, ρ', h', q, g, s⟩ := wpC_det hD hM c hw
    cases e with
    | normal => exact ⟨_, ρ', h', q, g, wpC_mono hM c (fun e1 ρ1 h1 ⟨x1, x2, x3⟩ => by subst x1; subst x2; subst x3; exact ⟨rfl, rfl, rfl⟩) _ _ s⟩
    | exit i =>
      simp only [blockP] at q
      split at q
      · rename_i hi; exact ⟨_, ρ', h', q, g, wpC_mono hM c (fun e1 ρ1 h1 ⟨x1, x2, x3⟩ => by subst x1; subst x2; subst x3; simp only [blockP, hi, if_true]; exact ⟨rfl, rfl, rfl⟩) _ _ s⟩
      · rename_i hi; exact ⟨_, ρ', h', q, g, wpC_mono hM c (fun e1 ρ1 h1 ⟨x1, x2, x3⟩ => by subst x1; subst x2; subst x3; simp only [blockP, hi, if_false]; exact ⟨rfl, rfl, rfl⟩) _ _ s⟩
    | ret => exact ⟨_, ρ', h', q, g, wpC_mono hM c (fun e1 ρ1 h1 ⟨x1, x2, x3⟩ => by subst x1; subst x2; subst x3; exact ⟨rfl, rfl, rfl⟩) _ _ s⟩
  | .loop c, Q, ρ, h, ⟨n, hw⟩ => by
    have key : ∀ n {ρ : Nat → Value} {h : Heap}, loopN (wpC C c) n Q ρ h → ∃ e ρ' h', Q e ρ' h' ∧ Grows h h' ∧ loopN (wpC C c) n (IsPost e ρ' h') ρ h := by
      intro n
      induction n with
      | zero => intro ρ h hw; exact hw.elim
      | succ n ih =>
        intro ρ h hw
        obtain ⟨e, ρ', h', q, g, s⟩ := wpC_det hD hM c hw
        cases e with
        | normal =>
          obtain ⟨e2, ρ2, h2, q2, g2, s2⟩ := ih q
          exact ⟨e2, ρ2, h2, q2, g.trans g2, wpC_mono hM c (fun e1 ρ1 h1 ⟨x1, x2, x3⟩ => by subst x1; subst x2; subst x3; exact s2) _ _ s⟩
        | exit i => exact ⟨_, ρ', h', q, g, wpC_mono hM c (fun e1 ρ1 h1 ⟨x1, x2, x3⟩ => by subst x1; subst x2; subst x3; exact ⟨rfl, rfl, rfl⟩) _ _ s⟩
        | ret => exact ⟨_, ρ', h', q, g, wpC_mono hM c (fun e1 ρ1 h1 ⟨x1, x2, x3⟩ => by subst x1; subst x2; subst x3; exact ⟨rfl, rfl, rfl⟩) _ _ s⟩
    obtain ⟨e, ρ', h', q, g, s⟩ := key n hw
    exact ⟨e, ρ', h', q, g, n, s⟩

theorem wpCall_det {T : FuncId → Option AFn} : ∀ n, CallDet (wpCall T n)
  | 0 => fun f args h R hw => hw.elim
  | n + 1 => fun f args h R hw => by
    unfold wpCall at hw
    split at hw
    · rename_i fn hfn
      rcases hw with ⟨v, hv, hw⟩ | ⟨hl, hw⟩
      · refine ⟨v, h, hw, .refl _, ?_⟩
        unfold wpCall
        simp only [hfn]
        exact .inl ⟨v, hv, by simp⟩
      obtain ⟨e, ρ', h', q, g, s⟩ := wpC_det (wpCall_det n) (wpCall_mono n) fn.body hw
      have key : ∀ vs, resList ρ' h' fn.results = some vs → R (oneOrTuple vs) h' → (e = .normal ∨ e = .ret) → ∃ v h', R v h' ∧ Grows h h' ∧ wpCall T (n + 1) f args h (fun v1 h1 => v1 = v ∧ h1 = h') := by
        intro vs hvs hR he
        refine ⟨_, h', hR, g, ?_⟩
        unfold wpCall
        simp only [hfn]
        refine .inr ⟨hl, wpC_mono (wpCall_mono n) fn.body (fun e1 ρ1 h1 ⟨x1, x2, x3⟩ => ?_) _ _ s⟩
        subst x1; subst x2; subst x3
        rcases he with rfl | rfl <;> simp [endP, hvs]
      cases e with
      | normal =>
        simp only [endP] at q
        split at q
        · rename_i vs hvs; exact key vs hvs q (.inl rfl)
        · exact q.elim
      | exit i => exact q.elim
      | ret =>
        simp only [endP] at q
        split at q
        · rename_i vs hvs; exact key vs hvs q (.inr rfl)
        · exact q.elim
    · exact hw.elim

end Go.AM
