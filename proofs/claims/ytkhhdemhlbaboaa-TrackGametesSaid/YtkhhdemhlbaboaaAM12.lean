/- The abstract machine, part 12: words for proofs over it. -/
import Derived.Test.YtkhhdemhlbaboaaAM11
set_option linter.unusedVariables false
set_option linter.unusedSimpArgs false
namespace Go.AM

/-! ### Calls of whatever depth -/
theorem loopN_le {body : Post → (Nat → Value) → Heap → Prop} (hb : ∀ Q Q' : Post, (∀ e ρ h, Q e ρ h → Q' e ρ h) → ∀ ρ h, body Q ρ h → body Q' ρ h) : ∀ n {Q : Post} {ρ : Nat → Value} {h : Heap}, loopN body n Q ρ h → loopN body (n + 1) Q ρ h
  | 0, _, _, _, hw => hw.elim
  | n + 1, Q, ρ, h, hw => hb _ _ (seqP_mono (fun ρ h hh => loopN_le hb n hh) (fun _ _ _ hh => hh)) ρ h hw
theorem loopN_up {body : Post → (Nat → Value) → Heap → Prop} (hb : ∀ Q Q' : Post, (∀ e ρ h, Q e ρ h → Q' e ρ h) → ∀ ρ h, body Q ρ h → body Q' ρ h) {m n : Nat} (hmn : m ≤ n) {Q : Post} {ρ : Nat → Value} {h : Heap} (hw : loopN body m Q ρ h) : loopN body n Q ρ h := by
  induction n with
  | zero => have : m = 0 := by omega
            subst this; exact hw
  | succ n ih =>
    by_cases he : m = n + 1
    · subst he; exact hw
    · exact loopN_le hb n (ih (by omega))

/-- A call is told by fewer means, too. -/
theorem wpOp_call {C C' : CallP} (hC : ∀ f args h R, C f args h R → C' f args h R) {o : AOper} {ρ h} {K : Value → Heap → Prop} (hw : wpOp C o ρ h K) : wpOp C' o ρ h K := by
  obtain ⟨dst, guard, op, keep⟩ := o
  cases op with
  | c f args =>
    simp only [wpOp] at *
    split at hw
    · exact hC _ _ _ _ hw
    · exact hw.elim
  | i x tbl args =>
    simp only [wpOp] at *
    split at hw
    · split at hw
      · exact hC _ _ _ _ hw
      · exact hw.elim
    · exact hw.elim
  | _ => exact hw

theorem wpOps_call {C C' : CallP} (hC : ∀ f args h R, C f args h R → C' f args h R) (hM : CallMono C) : ∀ (l : List AOper) {Q : Post} {ρ h}, wpOps C l Q ρ h → wpOps C' l Q ρ h
  | [], _, _, _, hw => hw
  | o :: r, Q, ρ, h, hw => by
    unfold wpOps at *
    split
    · rename_i hg; rw [if_pos hg] at hw
      exact wpOp_call hC (wpOp_mono hM (fun v h' hh => wpOps_call hC hM r hh) hw)
    · rename_i hg; rw [if_neg hg] at hw
      exact wpOps_call hC hM r hw

theorem wpC_call {C C' : CallP} (hC : ∀ f args h R, C f args h R → C' f args h R) (hM : CallMono C) : ∀ (c : ACode) {Q : Post} {ρ h}, wpC C c Q ρ h → wpC C' c Q ρ h
  | .skip, _, _, _, hw => hw
  | .exit _, _, _, _, hw => hw
  | .ret, _, _, _, hw => hw
  | .region ops, _, _, _, hw => wpOps_call hC hM ops hw
  | .seq a b, Q, ρ, h, hw => wpC_call hC hM a (wpC_mono hM a (seqP_mono (fun ρ h hh => wpC_call hC hM b hh) (fun _ _ _ hh => hh)) ρ h hw)
  | .cond c a b, Q, ρ, h, hw => by
    simp only [wpC] at *
    split at hw
    · split at hw
      · rename_i ht; simp only [ht, if_true]; exact wpC_call hC hM a hw
      · rename_i ht; rw [if_neg ht]; exact wpC_call hC hM b hw
    · exact hw.elim
  | .block id c, Q, ρ, h, hw => wpC_call hC hM c hw
  | .loop c, Q, ρ, h, ⟨n, hw⟩ => by
    refine ⟨n, ?_⟩
    induction n generalizing ρ h with
    | zero => exact hw
    | succ n ih => exact wpC_call hC hM c (wpC_mono hM c (seqP_mono (fun ρ h hh => ih _ _ hh) (fun _ _ _ hh => hh)) ρ h hw)

theorem wpCall_le {T : FuncId → Option AFn} : ∀ n f args h R, wpCall T n f args h R → wpCall T (n + 1) f args h R
  | 0, _, _, _, _, hw => hw.elim
  | n + 1, f, args, h, R, hw => by
    unfold wpCall at *
    split
    · rename_i fn e; simp only [e] at hw
      exact hw.imp id fun hw => ⟨hw.1, wpC_call (wpCall_le n) (wpCall_mono n) fn.body hw.2⟩
    · rename_i e; simp only [e] at hw
theorem wpCall_up {T : FuncId → Option AFn} {m n : Nat} (h : m ≤ n) {f args hp R} (hw : wpCall T m f args hp R) : wpCall T n f args hp R := by
  induction n with
  | zero => have : m = 0 := by omega
            subst this; exact hw
  | succ n ih =>
    by_cases he : m = n + 1
    · subst he; exact hw
    · exact wpCall_le n _ _ _ _ (ih (by omega))

/-- A call, of whatever depth. -/
def Call (T : FuncId → Option AFn) : CallP := fun f args h R => ∃ n, wpCall T n f args h R

theorem Call.mono {T : FuncId → Option AFn} : CallMono (Call T) := fun f args h R R' hr ⟨n, hw⟩ => ⟨n, wpCall_mono n f args h R R' hr hw⟩
theorem Call.imp {T : FuncId → Option AFn} {f args h} {R R' : Value → Heap → Prop} (hw : Call T f args h R) (hr : ∀ v h, R v h → R' v h) : Call T f args h R' := Call.mono f args h R R' hr hw
theorem Call.det {T : FuncId → Option AFn} : CallDet (Call T) := fun f args h R ⟨n, hw⟩ => by
  obtain ⟨v, h', r, g, s⟩ := wpCall_det n f args h R hw
  exact ⟨v, h', r, g, n, s⟩

/-- What a piece of code does, it does by calls of bounded depth. -/
theorem wpOps_bound {T : FuncId → Option AFn} : ∀ (l : List AOper) {Q : Post} {ρ h}, wpOps (Call T) l Q ρ h → ∃ n, wpOps (wpCall T n) l Q ρ h
  | [], _, _, _, hw => ⟨0, hw⟩
  | o :: r, Q, ρ, h, hw => by
    unfold wpOps at hw
    split at hw
    · rename_i hg
      obtain ⟨v, h1, k1, g1, s1⟩ := wpOp_det Call.det Call.mono hw
      obtain ⟨n2, k2⟩ := wpOps_bound r k1
      have : ∃ n1, wpOp (wpCall T n1) o ρ h (fun v1 h1' => v1 = v ∧ h1' = h1) := by
        obtain ⟨dst, guard, op, keep⟩ := o
        cases op with
        | c f args =>
          simp only [wpOp] at s1 ⊢
          split at s1
          · obtain ⟨n, s1⟩ := s1; exact ⟨n, s1⟩
          · exact s1.elim
        | i x tbl args =>
          simp only [wpOp] at s1 ⊢
          split at s1
          · split at s1
            · obtain ⟨n, s1⟩ := s1; exact ⟨n, s1⟩
            · exact s1.elim
          · exact s1.elim
        | _ => exact ⟨0, s1⟩
      obtain ⟨n1, s1⟩ := this
      refine ⟨max n1 n2, ?_⟩
      unfold wpOps
      rw [if_pos hg]
      refine wpOp_call (fun f args h R => wpCall_up (Nat.le_max_left _ _)) (wpOp_mono (wpCall_mono n1) (fun v2 h2 ⟨e1, e2⟩ => ?_) s1)
      subst e1; subst e2
      exact wpOps_call (fun f args h R => wpCall_up (Nat.le_max_right _ _)) (wpCall_mono n2) r k2
    · rename_i hg
      obtain ⟨n, k⟩ := wpOps_bound r hw
      refine ⟨n, ?_⟩
      unfold wpOps
      rw [if_neg hg]
      exact k

theorem wpC_bound {T : FuncId → Option AFn} : ∀ (c : ACode) {Q : Post} {ρ h}, wpC (Call T) c Q ρ h → ∃ n, wpC (wpCall T n) c Q ρ h
  | .skip, _, _, _, hw => ⟨0, hw⟩
  | .exit _, _, _, _, hw => ⟨0, hw⟩
  | .ret, _, _, _, hw => ⟨0, hw⟩
  | .region ops, _, _, _, hw => wpOps_bound ops hw
  | .seq a b, Q, ρ, h, hw => by
    obtain ⟨e, ρ', h', q, g, s⟩ := wpC_det Call.det Call.mono a hw
    obtain ⟨n1, s1⟩ := wpC_bound a s
    have : ∃ n2, seqP (wpC (wpCall T n2) b Q) Q e ρ' h' := by
      cases e with
      | normal => exact wpC_bound b q
      | exit i => exact ⟨0, q⟩
      | ret => exact ⟨0, q⟩
    obtain ⟨n2, s2⟩ := this
    refine ⟨max n1 n2, wpC_call (fun f args h R => wpCall_up (Nat.le_max_left n1 n2)) (wpCall_mono n1) a (wpC_mono (wpCall_mono n1) a (fun e1 ρ1 h1 ⟨x1, x2, x3⟩ => ?_) _ _ s1)⟩
    subst x1; subst x2; subst x3
    cases e1 with
    | normal => exact wpC_call (fun f args h R => wpCall_up (Nat.le_max_right n1 n2)) (wpCall_mono n2) b s2
    | exit i => exact s2
    | ret => exact s2
  | .cond c a b, Q, ρ, h, hw => by
    simp only [wpC] at *
    split at hw
    · split at hw
      · rename_i ht; obtain ⟨n, k⟩ := wpC_bound a hw; exact ⟨n, by simp only [ht, if_true]; exact k⟩
      · rename_i ht; obtain ⟨n, k⟩ := wpC_bound b hw; exact ⟨n, by rw [if_neg ht]; exact k⟩
    · exact hw.elim
  | .block id c, Q, ρ, h, hw => wpC_bound c hw
  | .loop c, Q, ρ, h, ⟨m, hw⟩ => by
    have key : ∀ m {ρ h}, loopN (wpC (Call T) c) m Q ρ h → ∃ n, loopN (wpC (wpCall T n) c) m Q ρ h := by
      intro m
      induction m with
      | zero => intro ρ h hw; exact hw.elim
      | succ m ih =>
        intro ρ h hw
        obtain ⟨e, ρ', h', q, g, s⟩ := wpC_det Call.det Call.mono c hw
        obtain ⟨n1, s1⟩ := wpC_bound c s
        have : ∃ n2, seqP (loopN (wpC (wpCall T n2) c) m Q) Q e ρ' h' := by
          cases e with
          | normal => exact ih q
          | exit i => exact ⟨0, q⟩
          | ret => exact ⟨0, q⟩
        obtain ⟨n2, s2⟩ := this
        refine ⟨max n1 n2, wpC_call (fun f args h R => wpCall_up (Nat.le_max_left n1 n2)) (wpCall_mono n1) c (wpC_mono (wpCall_mono n1) c (fun e1 ρ1 h1 ⟨x1, x2, x3⟩ => ?_) _ _ s1)⟩
        subst x1; subst x2; subst x3
        cases e1 with
        | normal =>
          have up : ∀ k {ρ h}, loopN (wpC (wpCall T n2) c) k Q ρ h → loopN (wpC (wpCall T (max n1 n2)) c) k Q ρ h := by
            intro k
            induction k with
            | zero => intro ρ h hw; exact hw
            | succ k ihk => intro ρ h hw; exact wpC_call (fun f args h R => wpCall_up (Nat.le_max_right n1 n2)) (wpCall_mono n2) c (wpC_mono (wpCall_mono n2) c (seqP_mono (fun ρ h hh => ihk hh) (fun _ _ _ hh => hh)) _ _ hw)
          exact up m s2
        | exit i => exact s2
        | ret => exact s2
    obtain ⟨n, k⟩ := key m hw
    exact ⟨n, m, k⟩

/-- **A call is told by its body.** -/
theorem Call.of {T : FuncId → Option AFn} {f : FuncId} {fn : AFn} {args : List Value} {h : Heap} {R : Value → Heap → Prop} (hf : T f = some fn) (hl : args.length ≤ fn.n) (hw : wpC (Call T) fn.body (endP fn.results R) (enter args) h) : Call T f args h R := by
  obtain ⟨n, k⟩ := wpC_bound fn.body hw
  refine ⟨n + 1, ?_⟩
  unfold wpCall
  simp only [hf]
  exact .inr ⟨hl, k⟩

/-- A call whose result is known. -/
theorem Call.known {T : FuncId → Option AFn} {f : FuncId} {fn : AFn} {args : List Value} {h : Heap} {R : Value → Heap → Prop} (hf : T f = some fn) {v : Value} (hk : (args, v) ∈ fn.known) (hr : R v h) : Call T f args h R := by
  refine ⟨1, ?_⟩
  unfold wpCall
  simp only [hf]
  exact .inl ⟨v, hk, hr⟩

theorem Call.sound {P : Program} {ng : Nat} {T : FuncId → Option AFn} (hs : ∀ n, CallSound P ng (wpCall T n)) : CallSound P ng (Call T) := fun f args h R ⟨n, hw⟩ => hs n f args h R hw

/-- **A loop**: a measure, and what holds at the head of each round. -/
theorem wp_loop {C : CallP} (hM : CallMono C) {c : ACode} {Q : Post} (I : Nat → (Nat → Value) → Heap → Prop) (step : ∀ m ρ h, I m ρ h → wpC C c (seqP (fun ρ' h' => ∃ m', m' < m ∧ I m' ρ' h') Q) ρ h) {m : Nat} {ρ : Nat → Value} {h : Heap} (h0 : I m ρ h) : wpC C (.loop c) Q ρ h := by
  refine ⟨m + 1, ?_⟩
  have key : ∀ k m, m < k → ∀ ρ h, I m ρ h → loopN (wpC C c) (m + 1) Q ρ h := by
    intro k
    induction k with
    | zero => intro m hm; omega
    | succ k ih =>
      intro m hm ρ h hI
      refine wpC_mono hM c (seqP_mono (fun ρ' h' ⟨m', hm', hI'⟩ => ?_) (fun _ _ _ hh => hh)) ρ h (step m ρ h hI)
      exact loopN_up (fun Q Q' hq => wpC_mono hM c hq) (by omega : m' + 1 ≤ m) (ih m' (by omega) ρ' h' hI')
  exact key (m + 1) m (by omega) ρ h h0

end Go.AM
