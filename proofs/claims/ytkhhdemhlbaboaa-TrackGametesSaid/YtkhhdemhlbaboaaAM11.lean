/- The abstract machine, part 11: from a table of functions to calls of the model. -/
import Derived.Test.YtkhhdemhlbaboaaAM10
set_option linter.unusedVariables false
set_option linter.unusedSimpArgs false
namespace Go.AM

/-- A function of the program, as the abstract machine has it. 'ord' tells an order for each region whose order is open. -/
def cFn (P : Program) (ng : Nat) (ord : FuncId → Nat → List Nat) (f : FuncId) : Option AFn :=
  match P.funcs[f]? with
  | some fn => match fn.body with
    | some c => if (fn.name == "runtime.NumGoroutine") = false then
        match cCode P ng fn.ntmps (fun id ops => cDraw P ng fn.ntmps ops (ord f id)) c, cRes P fn.ntmps fn.results.toList with
        | some b, some r => some { body := b, results := r, n := fn.ntmps, known := [] }
        | _, _ => none
      else none
    | none => none
  | none => none

theorem cFn_ok {P : Program} {ng : Nat} {ord : FuncId → Nat → List Nat} {f : FuncId} {af : AFn} (h : cFn P ng ord f = some { af with known := [] }) (hk : ∀ a v, (a, v) ∈ af.known → KnownOk P ng f a v) : FnOk P ng (fun f N id ops => cDraw P ng N ops (ord f id)) f af := by
  unfold cFn at h
  split at h
  · rename_i fn hfn
    split at h
    · rename_i c hc
      split at h
      · rename_i hn
        split at h
        · rename_i b r h1 h2
          simp only [Option.some.injEq, AFn.mk.injEq, and_true] at h
          obtain ⟨e1, e2, e3⟩ := h
          exact ⟨fn, c, hfn, hc, hn, by rw [h1, e1], by rw [h2, e2], e3.symm, hk⟩
        · cases h
      · cases h
    · cases h
  · cases h

/-- Every call of the table's functions, told by the abstract machine, is so in the model. -/
theorem table_sound {P : Program} {ng : Nat} {T : FuncId → Option AFn} {ord : FuncId → Nat → List Nat} (hm : P.follows .mixedOrders = true) (hT : ∀ f af, T f = some af → cFn P ng ord f = some { af with known := [] })
    (hK : ∀ f af, T f = some af → ∀ a v, (a, v) ∈ af.known → KnownOk P ng f a v) (n : Nat) : CallSound P ng (wpCall T n) :=
  call_sound (draw := fun f N id ops => cDraw P ng N ops (ord f id)) (fun f af h => cFn_ok (hT f af h) (hK f af h)) (fun f N n hC => draw_sound hm hC (wpCall_det n) (wpCall_mono n) (ord f)) n

/-- The table with some calls known. -/
def learn (T : FuncId → Option AFn) (g : FuncId) (l : List (List Value × Value)) : FuncId → Option AFn := fun f =>
  match T f with
  | some af => some (if f = g then { af with known := l } else af)
  | none => none
theorem learn_eq {T : FuncId → Option AFn} {g : FuncId} {l : List (List Value × Value)} {f : FuncId} {af : AFn} (h : learn T g l f = some af) : ∃ af0, T f = some af0 ∧ ({ af with known := [] } : AFn) = { af0 with known := [] } ∧ (af.known = af0.known ∨ (f = g ∧ af.known = l)) := by
  unfold learn at h
  split at h
  · rename_i af0 h0
    simp only [Option.some.injEq] at h
    subst h
    refine ⟨af0, h0, ?_, ?_⟩
    · split <;> rfl
    · split
      · rename_i e; exact .inr ⟨e, rfl⟩
      · exact .inl rfl
  · cases h

/-! ### The memory that a call finds -/
def snap (w : World) : Heap where
  get := fun b => if b < w.heap.size then (match w.heap[b]? with
    | some (.cells C _ _) => some { cells := C.toList, esz := 0 }
    | _ => none) else none
  next := w.heap.size
  base := w.heap.size

def idG (w : World) : Gh := fun b => if b < w.heap.size then some (b, 0) else none

theorem snap_rel (w : World) : HRel (idG w) (snap w) w where
  low := fun b hb => ⟨0, if_pos hb⟩
  size := Nat.le_refl _
  ro := fun b o hb hg => by
    simp only [snap] at hg
    split at hg
    · split at hg
      · rename_i C T fz e
        simp only [Option.some.injEq] at hg; subst hg
        exact ⟨C, T, fz, e, rfl⟩
      · cases hg
    · cases hg
  own := fun b o hb hg => by
    simp only [snap] at hb hg
    rw [if_neg (by omega)] at hg; cases hg
  inj := fun b b' c k k' hb _ hs => by
    simp only [snap] at hb hs
    rw [if_neg (by omega)] at hs; simp at hs

theorem snap_fresh (w : World) : Fresh (idG w) (snap w) where
  le := Nat.le_refl _
  free := fun b hb => ⟨if_neg (by simp only [snap] at hb; omega), by simp only [snap] at *; rw [if_neg (by omega)]⟩

open Go.RowKit in
theorem step_below {w w' : World} {G : Gh} {h : Heap} (s : Step (idG w) (snap w) w G h w') : Below w.heap.size w w' where
  os := s.os
  tape := s.tape
  output := s.output
  size := s.size
  block := fun k hk => s.keeps k hk (fun ⟨b, _, hb, hs, _⟩ => by
    simp only [snap] at hb hs
    rw [if_neg (by omega)] at hs; simp at hs)

/-- What an argument is here. -/
def canonArg (base : Nat) : Value → Option Value
  | .agg cs => match canons base cs.toList with
    | some r => some (.agg r.toArray)
    | none => none
  | v => canon base v
def canonArgs (base : Nat) : List Value → Option (List Value)
  | [] => some []
  | v :: l => match canonArg base v, canonArgs base l with
    | some u, some r => some (u :: r)
    | _, _ => none

theorem VRel.arg {w : World} {u v : Value} (h : canonArg w.heap.size v = some u) : VRel (idG w) u v := by
  unfold canonArg at h
  split at h
  · rename_i cs
    split at h
    · rename_i r hr
      simp only [Option.some.injEq] at h; subst h
      have := VRel.agg (canons_rel (snap_rel w).low hr)
      simpa using this
    · cases h
  · exact canon_rel (snap_rel w).low h

theorem VRels.args {w : World} : ∀ {l r : List Value}, canonArgs w.heap.size l = some r → VRels (idG w) r l
  | [], r, h => by simp only [canonArgs, Option.some.injEq] at h; subst h; exact .nil
  | v :: l, r, h => by
    simp only [canonArgs] at h
    split at h
    · rename_i u r' h1 h2
      simp only [Option.some.injEq] at h; subst h
      exact .cons (VRel.arg h1) (VRels.args h2)
    · cases h

open Go.RowKit in
/-- What the abstract machine says of a law, the model does. -/
theorem law_calls {P : Program} {ng : Nat} {C : CallP} (hC : CallSound P ng C) {f : FuncId} {args args0 : List Value} {w : World} (hn : ng ≤ w.heap.size) (ha : canonArgs w.heap.size args = some args0)
    (h : C f args0 (snap w) (fun v _ => v = .bool true)) : Calls P f args.toArray w fun e w' => e = .returned (.bool true) ∧ Below w.heap.size w w' := by
  obtain ⟨_, hc⟩ := hC f args0 (snap w) _ h (idG w) w args (snap_rel w) (snap_fresh w) hn (VRels.args ha)
  refine hc.mono fun e w' he => ?_
  obtain ⟨v, v', h', G', rfl, rfl, hv, _, _, hs⟩ := he
  refine ⟨?_, step_below hs⟩
  cases hv
  rfl

end Go.AM
