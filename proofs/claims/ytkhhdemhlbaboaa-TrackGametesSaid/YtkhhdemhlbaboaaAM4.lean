/- The abstract machine, part 4: its code, what a run of it comes to, and regions in the order of the text. -/
import Derived.Test.YtkhhdemhlbaboaaAM3
set_option linter.unusedVariables false
set_option linter.unusedSimpArgs false
namespace Go.AM

inductive AOp where
  | p (o : POp)
  | l (n : Nat) (agg : Bool) (x : Operand)
  | a (o : AlOp)
  | e (o : EOp)
  | c (f : Operand) (args : List Operand)
  | i (x : Operand) (tbl : List (TypeId × FuncId)) (args : List Operand)

/-- An operation: the slot that it writes; the slot and the value that it waits for; the cells that must be the same behind it. -/
structure AOper where
  dst : Option Nat
  guard : Option (Nat × Bool)
  op : AOp
  keep : List (Operand × Nat)

inductive ACode where
  | skip
  | region (ops : List AOper)
  | seq (a b : ACode)
  | cond (c : Operand) (a b : ACode)
  | block (id : Nat) (c : ACode)
  | loop (c : ACode)
  | exit (id : Nat)
  | ret

inductive AExit where
  | normal
  | exit (id : Nat)
  | ret

inductive ARes where
  | tmp (t : Nat)
  | cell (n : Nat) (agg : Bool) (t : Nat)

/-- A function: its code, its results, how many slots it has; calls whose result is known already. -/
structure AFn where
  body : ACode
  results : List ARes
  n : Nat
  known : List (List Value × Value) := []

abbrev Post := AExit → (Nat → Value) → Heap → Prop
abbrev CallP := FuncId → List Value → Heap → (Value → Heap → Prop) → Prop

def put (ρ : Nat → Value) (dst : Option Nat) (v : Value) : Nat → Value :=
  match dst with
  | some d => fun i => if i = d then v else ρ i
  | none => ρ

def want (ρ : Nat → Value) : Option (Nat × Bool) → Bool
  | none => true
  | some (s, b) => match ρ s with
    | .bool t => t == b
    | _ => false

/-- The cells that a load would read. -/
def rdA (h : Heap) (x : Value) (n : Nat) : Option (List Value) :=
  match x with
  | .pointer (some ⟨b, o, none⟩) => h.read b o n
  | _ => none

def keepOk (h h' : Heap) (ρ : Nat → Value) : List (Operand × Nat) → Prop
  | [] => True
  | (x, n) :: r => rdA h (ev ρ x) n = rdA h' (ev ρ x) n ∧ keepOk h h' ρ r

def wpOp (C : CallP) (o : AOper) (ρ : Nat → Value) (h : Heap) (K : Value → Heap → Prop) : Prop :=
  match o.op with
  | .p q => match pop q ρ with
    | some v => K v h
    | none => False
  | .l n agg x => match loadA h n agg (ev ρ x) with
    | some v => K v h
    | none => False
  | .a q => match alop q ρ with
    | some (cs, f) => K (f h.next) (h.alloc { cells := cs, esz := 0 })
    | none => False
  | .e q => match eop q ρ h with
    | some (v, h') => keepOk h h' ρ o.keep ∧ K v h'
    | none => False
  | .c f args => match ev ρ f with
    | .func (.func fid) first captured => C fid (first.toList ++ args.map (ev ρ) ++ captured.toList) h fun v h' => keepOk h h' ρ o.keep ∧ K v h'
    | _ => False
  | .i x tbl args => match ev ρ x with
    | .iface t v => match tbl.lookup t with
      | some fid => C fid (v :: args.map (ev ρ)) h fun v h' => keepOk h h' ρ o.keep ∧ K v h'
      | none => False
    | _ => False

def wpOps (C : CallP) : List AOper → Post → (Nat → Value) → Heap → Prop
  | [], Q, ρ, h => Q .normal ρ h
  | o :: r, Q, ρ, h => if want ρ o.guard = true then wpOp C o ρ h (fun v h' => wpOps C r Q (put ρ o.dst v) h') else wpOps C r Q (put ρ o.dst undef) h

def seqP (K : (Nat → Value) → Heap → Prop) (Q : Post) : Post
  | .normal, ρ, h => K ρ h
  | e, ρ, h => Q e ρ h

def blockP (id : Nat) (Q : Post) : Post
  | .exit i, ρ, h => if i = id then Q .normal ρ h else Q (.exit i) ρ h
  | e, ρ, h => Q e ρ h

def loopN (body : Post → (Nat → Value) → Heap → Prop) : Nat → Post → (Nat → Value) → Heap → Prop
  | 0, _, _, _ => False
  | n + 1, Q, ρ, h => body (seqP (loopN body n Q) Q) ρ h

def wpC (C : CallP) : ACode → Post → (Nat → Value) → Heap → Prop
  | .skip, Q, ρ, h => Q .normal ρ h
  | .region ops, Q, ρ, h => wpOps C ops Q ρ h
  | .seq a b, Q, ρ, h => wpC C a (seqP (wpC C b Q) Q) ρ h
  | .cond c a b, Q, ρ, h => match ev ρ c with
    | .bool t => if t = true then wpC C a Q ρ h else wpC C b Q ρ h
    | _ => False
  | .block id c, Q, ρ, h => wpC C c (blockP id Q) ρ h
  | .loop c, Q, ρ, h => ∃ n, loopN (wpC C c) n Q ρ h
  | .exit id, Q, ρ, h => Q (.exit id) ρ h
  | .ret, Q, ρ, h => Q .ret ρ h

def resA (ρ : Nat → Value) (h : Heap) : ARes → Option Value
  | .tmp t => some (ρ t)
  | .cell n agg t => loadA h n agg (ρ t)

def resList (ρ : Nat → Value) (h : Heap) : List ARes → Option (List Value)
  | [] => some []
  | r :: l => match resA ρ h r, resList ρ h l with
    | some v, some vs => some (v :: vs)
    | _, _ => none

def oneOrTuple : List Value → Value
  | [v] => v
  | vs => .tuple vs.toArray

def endP (rs : List ARes) (R : Value → Heap → Prop) : Post
  | .exit _, _, _ => False
  | _, ρ, h => match resList ρ h rs with
    | some vs => R (oneOrTuple vs) h
    | none => False

def enter (args : List Value) : Nat → Value := fun i => args.getD i undef

/-- A call of a function, by at most so many calls within each other. -/
def wpCall (T : FuncId → Option AFn) : Nat → CallP
  | 0, _, _, _, _ => False
  | n + 1, f, args, h, R => match T f with
    | some fn => (∃ v, (args, v) ∈ fn.known ∧ R v h) ∨ (args.length ≤ fn.n ∧ wpC (wpCall T n) fn.body (endP fn.results R) (enter args) h)
    | none => False

/-! ### More of what holds -/
theorem wpOp_mono {C : CallP} (hC : ∀ f args h R R', (∀ v h, R v h → R' v h) → C f args h R → C f args h R') {o : AOper} {ρ h} {K K' : Value → Heap → Prop} (hk : ∀ v h, K v h → K' v h) (hw : wpOp C o ρ h K) : wpOp C o ρ h K' := by
  obtain ⟨dst, guard, op, keep⟩ := o
  cases op with
  | p q =>
    simp only [wpOp] at *
    cases e : pop q ρ with
    | none => simp only [e] at hw
    | some v => simp only [e] at hw ⊢; exact hk _ _ hw
  | l n agg x =>
    simp only [wpOp] at *
    cases e : loadA h n agg (ev ρ x) with
    | none => simp only [e] at hw
    | some v => simp only [e] at hw ⊢; exact hk _ _ hw
  | a q =>
    simp only [wpOp] at *
    cases e : alop q ρ with
    | none => simp only [e] at hw
    | some v => simp only [e] at hw ⊢; exact hk _ _ hw
  | e q =>
    simp only [wpOp] at *
    cases e : eop q ρ h with
    | none => simp only [e] at hw
    | some v => simp only [e] at hw ⊢; exact ⟨hw.1, hk _ _ hw.2⟩
  | c f args =>
    simp only [wpOp] at *
    split at hw
    · exact hC _ _ _ _ _ (fun v h hh => ⟨hh.1, hk _ _ hh.2⟩) hw
    · exact hw.elim
  | i x tbl args =>
    simp only [wpOp] at *
    split at hw
    · split at hw
      · exact hC _ _ _ _ _ (fun v h hh => ⟨hh.1, hk _ _ hh.2⟩) hw
      · exact hw.elim
    · exact hw.elim

theorem wpOps_mono {C : CallP} (hC : ∀ f args h R R', (∀ v h, R v h → R' v h) → C f args h R → C f args h R') : ∀ (l : List AOper) {Q Q' : Post} (hq : ∀ e ρ h, Q e ρ h → Q' e ρ h) {ρ h}, wpOps C l Q ρ h → wpOps C l Q' ρ h
  | [], Q, Q', hq, ρ, h, hw => hq _ _ _ hw
  | o :: r, Q, Q', hq, ρ, h, hw => by
    unfold wpOps at *
    split
    · rename_i hg; rw [if_pos hg] at hw
      exact wpOp_mono hC (fun v h' hh => wpOps_mono hC r hq hh) hw
    · rename_i hg; rw [if_neg hg] at hw
      exact wpOps_mono hC r hq hw

theorem seqP_mono {K K' : (Nat → Value) → Heap → Prop} {Q Q' : Post} (hk : ∀ ρ h, K ρ h → K' ρ h) (hq : ∀ e ρ h, Q e ρ h → Q' e ρ h) : ∀ e ρ h, seqP K Q e ρ h → seqP K' Q' e ρ h
  | .normal, ρ, h, hh => hk _ _ hh
  | .exit i, ρ, h, hh => hq (.exit i) _ _ hh
  | .ret, ρ, h, hh => hq .ret _ _ hh

theorem loopN_mono {body : Post → (Nat → Value) → Heap → Prop} (hb : ∀ Q Q' : Post, (∀ e ρ h, Q e ρ h → Q' e ρ h) → ∀ ρ h, body Q ρ h → body Q' ρ h) : ∀ n {Q Q' : Post}, (∀ e ρ h, Q e ρ h → Q' e ρ h) → ∀ ρ h, loopN body n Q ρ h → loopN body n Q' ρ h
  | 0, _, _, _, _, _, hw => hw
  | n + 1, Q, Q', hq, ρ, h, hw => hb _ _ (seqP_mono (loopN_mono hb n hq) hq) ρ h hw

theorem wpC_mono {C : CallP} (hC : ∀ f args h R R', (∀ v h, R v h → R' v h) → C f args h R → C f args h R') : ∀ (c : ACode) {Q Q' : Post}, (∀ e ρ h, Q e ρ h → Q' e ρ h) → ∀ ρ h, wpC C c Q ρ h → wpC C c Q' ρ h
  | .skip, Q, Q', hq, ρ, h, hw => hq _ _ _ hw
  | .region ops, Q, Q', hq, ρ, h, hw => wpOps_mono hC ops hq hw
  | .seq a b, Q, Q', hq, ρ, h, hw => wpC_mono hC a (seqP_mono (wpC_mono hC b hq) hq) ρ h hw
  | .cond c a b, Q, Q', hq, ρ, h, hw => by
    unfold wpC at *
    split
    · rename_i t e
      simp only [e] at hw
      split
      · rename_i ht; rw [if_pos ht] at hw; exact wpC_mono hC a hq ρ h hw
      · rename_i ht; rw [if_neg ht] at hw; exact wpC_mono hC b hq ρ h hw
    · rename_i e
      split at hw
      · rename_i t e'; exact absurd e' (e t)
      · exact hw
  | .block id c, Q, Q', hq, ρ, h, hw => wpC_mono hC c (fun e ρ h hh => by
    cases e with
    | exit i => simp only [blockP] at *; split <;> rename_i hi <;> simp only [hi, if_true, if_false] at hh <;> exact hq _ _ _ hh
    | normal => exact hq .normal _ _ hh
    | ret => exact hq .ret _ _ hh) ρ h hw
  | .loop c, Q, Q', hq, ρ, h, ⟨n, hw⟩ => ⟨n, loopN_mono (fun Q Q' hq => wpC_mono hC c hq) n hq ρ h hw⟩
  | .exit id, Q, Q', hq, ρ, h, hw => hq _ _ _ hw
  | .ret, Q, Q', hq, ρ, h, hw => hq _ _ _ hw

theorem endP_mono {rs : List ARes} {R R' : Value → Heap → Prop} (hr : ∀ v h, R v h → R' v h) : ∀ e ρ h, endP rs R e ρ h → endP rs R' e ρ h := by
  intro e ρ h hh
  cases e <;> simp only [endP] at * <;> (split <;> simp_all)

theorem wpCall_mono {T : FuncId → Option AFn} : ∀ n f args h (R R' : Value → Heap → Prop), (∀ v h, R v h → R' v h) → wpCall T n f args h R → wpCall T n f args h R'
  | 0, _, _, _, _, _, _, hw => hw
  | n + 1, f, args, h, R, R', hr, hw => by
    unfold wpCall at *
    split
    · rename_i fn e; simp only [e] at hw
      rcases hw with ⟨v, hv, hw⟩ | hw
      · exact .inl ⟨v, hv, hr _ _ hw⟩
      · exact .inr ⟨hw.1, wpC_mono (wpCall_mono n) fn.body (endP_mono hr) _ _ hw.2⟩
    · rename_i e; simp only [e] at hw

/-! ### The same code in the model -/
/-- The function behind a method of a type that is its own receiver. -/
def methOf (P : Program) (name : String) (t : TypeId) : Option FuncId :=
  match P.info? t, P.underlying t with
  | some i, some d => match i.methods.toList.find? (fun m => m.name == name) with
    | some m => match m.path.toList, m.func, d with
      | _, _, .pointer _ => none
      | [], some (f, false), _ => some f
      | _, _, _ => none
    | none => none
  | _, _ => none
def methTbl (P : Program) (name : String) : List (TypeId × FuncId) := (List.range P.types.size).filterMap fun t => (methOf P name t).map fun f => (t, f)

def cOp (P : Program) (o : Op) : Option AOp :=
  match cP P o with
  | some q => some (.p q)
  | none => match cL P o with
    | some (n, agg, x) => some (.l n agg x)
    | none => match cA P o with
      | some q => some (.a q)
      | none => match cE P o with
        | some q => some (.e q)
        | none => match o with
          | .call { callee := .value f, args, .. } => some (.c f args.toList)
          | .call { callee := .invoke x name, args, .. } => some (.i x (methTbl P name) args.toList)
          | _ => none

def cGuard (ops : Array Oper) : Option (Nat × Bool) → Option (Option (Nat × Bool))
  | none => some none
  | some (j, b) => match (ops[j]?).bind (·.dst) with
    | some s => some (some (s, b))
    | none => none

def dstOk (N : Nat) : Option Tmp → Bool
  | none => true
  | some d => decide (d < N)

def cOper (P : Program) (ng N : Nat) (ops : Array Oper) (keep : List (Operand × Nat)) (o : Oper) : Option AOper :=
  if dstOk N o.dst = true ∧ opsOk ng o.op = true then
    match cGuard ops o.guard, cOp P o.op with
    | some g, some p => some { dst := o.dst, guard := g, op := p, keep := keep }
    | _, _ => none
  else none

/-- The state of a call here and in the model. -/
structure SRel (G : Gh) (N : Nat) (ρ : Nat → Value) (h : Heap) (a : Act) (w : World) : Prop where
  frame : FRel G ρ a
  size : a.tmps.size = N
  defers : a.defers = []
  heap : HRel G h w
  fresh : Fresh G h

/-- What a call comes to in the model. -/
def CallSound (P : Program) (ng : Nat) (C : CallP) : Prop := ∀ f args h R, C f args h R → ∀ G w args', HRel G h w → Fresh G h → ng ≤ h.base → VRels G args args' →
  (∃ fn, P.funcs[f]? = some fn ∧ fn.body.isSome = true ∧ (fn.name == "runtime.NumGoroutine") = false) ∧
  Calls P f args'.toArray w fun e w' => ∃ v v' h' G', e = .returned v' ∧ R v h' ∧ VRel G' v v' ∧ HRel G' h' w' ∧ Fresh G' h' ∧ Step G h w G' h' w'

theorem FRel.put {G : Gh} {N : Nat} {ρ : Nat → Value} {a : Act} (R : FRel G ρ a) (hn : a.tmps.size = N) {dst : Option Tmp} (hd : dstOk N dst = true) {v v' : Value} (hv : VRel G v v') : FRel G (put ρ dst v) (a.put dst v') := by
  intro i
  cases dst with
  | none => exact R i
  | some d =>
    simp only [dstOk, decide_eq_true_eq] at hd
    simp only [AM.put, Act.put]
    by_cases h : i = d
    · subst h
      rw [if_pos rfl]
      have : (a.tmps.setIfInBounds i v').getD i undef = v' := by simp [hn, hd]
      rw [this]; exact hv
    · rw [if_neg h]
      have : (a.tmps.setIfInBounds d v').getD i undef = a.tmps.getD i undef := by simp [Ne.symm h]
      rw [this]; exact R i

theorem Act.put_size (a : Act) (d : Option Tmp) (v : Value) : (a.put d v).tmps.size = a.tmps.size := by cases d <;> simp [Act.put]
theorem Act.put_def (a : Act) (d : Option Tmp) (v : Value) : (a.put d v).defers = a.defers := by cases d <;> rfl

theorem want_rel1 {G : Gh} {ρ : Nat → Value} {a : Act} {ops : Array Oper} {o : Oper} {g : Option (Nat × Bool)} (hg : cGuard ops o.guard = some g) (R : ∀ s b, g = some (s, b) → VRel G (ρ s) (a.tmps.getD s undef)) : Region.wanted o (yielded ops a.tmps) = want ρ g := by
  unfold cGuard at hg
  unfold Region.wanted
  split at hg
  · rename_i e; simp only [Option.some.injEq] at hg; subst hg; simp [e, want]
  · rename_i j b e
    split at hg
    · rename_i s hs
      simp only [Option.some.injEq] at hg; subst hg
      simp only [e, want]
      have hr := R s b rfl
      unfold yielded
      simp only [hs, Option.bind_some]
      have hget : a.tmps.getD s undef = (a.tmps[s]?).getD undef := by simp [Array.getD_eq_getD_getElem?]
      rw [hget] at hr
      cases ht : a.tmps[s]? with
      | none =>
        rw [ht] at hr
        simp only [Option.getD_none, undef] at hr
        generalize ρ s = u at *
        cases u <;> first | (cases hr; done) | simp
      | some x =>
        rw [ht] at hr
        simp only [Option.getD_some] at hr
        generalize ρ s = u at *
        cases hr <;> simp
    · cases hg

theorem want_rel {G : Gh} {ρ : Nat → Value} {a : Act} (R : FRel G ρ a) {ops : Array Oper} {o : Oper} {g : Option (Nat × Bool)} (hg : cGuard ops o.guard = some g) : Region.wanted o (yielded ops a.tmps) = want ρ g := want_rel1 hg (fun s _ _ => R s)

end Go.AM
