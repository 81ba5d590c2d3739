/- The abstract machine, part 6: all code, and calls. -/
import Derived.Test.YtkhhdemhlbaboaaAM5
set_option linter.unusedVariables false
set_option linter.unusedSimpArgs false
namespace Go.AM

/-! ### A loop, round by round -/
def LoopAt (P : Program) (c : Code) (Q : Exit → Act → World → Prop) (a : Act) (w : World) : Prop :=
  ∀ (b : Frame) (k : List Item) (cs : List Frame), ∃ e a' w', Q e a' w' ∧ Arrives P (lone (b.at a (.code c :: .inLoop c :: k)) cs w) b k cs e a' w'

theorem LoopAt.wp {P : Program} {c : Code} {Q : Exit → Act → World → Prop} {a : Act} {w : World} (h : LoopAt P c Q a w) : (Code.loop c).wp P Q a w := fun b k cs => by
  obtain ⟨e, a', w', hq, harr⟩ := h b k cs
  exact ⟨e, a', w', hq, .of_steps (.one step_loop) harr⟩

theorem LoopAt.round {P : Program} {c : Code} {Q : Exit → Act → World → Prop} {a : Act} {w : World} (h : c.wp P (Exit.then (LoopAt P c Q) Q) a w) : LoopAt P c Q a w := fun b k cs => by
  obtain ⟨e, a₁, w₁, hq, harr⟩ := h b (.inLoop c :: k) cs
  cases e with
  | normal =>
    obtain ⟨e₂, a₂, w₂, hq₂, harr₂⟩ := hq b k cs
    exact ⟨e₂, a₂, w₂, hq₂, .of_steps (Steps.trans harr (.one step_inLoop)) harr₂⟩
  | exit id => exact ⟨_, a₁, w₁, hq, .pass (x := .inLoop c) rfl (fun _ _ => .inl (by simp)) harr⟩
  | goto l => exact ⟨_, a₁, w₁, hq, .pass (x := .inLoop c) rfl (fun _ _ => .inl (by simp)) harr⟩
  | ret => exact ⟨_, a₁, w₁, hq, .pass (x := .inLoop c) rfl (fun _ _ => .inl (by simp)) harr⟩
  | panic ch => exact ⟨_, a₁, w₁, hq, .pass (x := .inLoop c) rfl (fun _ _ => .inl (by simp)) harr⟩
  | outgrown => exact ⟨_, a₁, w₁, hq, .pass (x := .inLoop c) rfl (fun _ _ => .inl (by simp)) harr⟩

/-! ### Code -/
def cCode (P : Program) (ng N : Nat) (draw : Nat → Array Oper → Option (List AOper)) : Code → Option ACode
  | .skip => some .skip
  | .region id ops d => if d = true then (draw id ops).map .region else (cOpers P ng N ops ops.toList).map .region
  | .seq a b => match cCode P ng N draw a, cCode P ng N draw b with
    | some x, some y => some (.seq x y)
    | _, _ => none
  | .cond c a b => if opOk ng c = true then (match cCode P ng N draw a, cCode P ng N draw b with
    | some x, some y => some (.cond c x y)
    | _, _ => none) else none
  | .block id c => (cCode P ng N draw c).map (.block id)
  | .loop c => (cCode P ng N draw c).map .loop
  | .exit id => some (.exit id)
  | .ret => some .ret
  | _ => none

/-- What is asked of the regions whose order is open. -/
def DrawSound (P : Program) (ng N : Nat) (C : CallP) (draw : Nat → Array Oper → Option (List AOper)) : Prop :=
  ∀ id ops al, draw id ops = some al → ∀ {G0 : Gh} {h0 : Heap} {w0 : World} {G : Gh} {ρ : Nat → Value} {h : Heap} {a : Act} {w : World}, SRel G N ρ h a w → ng ≤ h.base → Step G0 h0 w0 G h w → ∀ {Q : Post}, wpOps C al Q ρ h →
    (Code.region id ops true).wp P (AfterQ G0 N h0 w0 Q) a w

theorem code_sound {P : Program} {ng N : Nat} {C : CallP} (hC : CallSound P ng C) {draw : Nat → Array Oper → Option (List AOper)} (hD : DrawSound P ng N C draw) {G0 : Gh} {h0 : Heap} {w0 : World} :
    ∀ (c : Code) (ac : ACode), cCode P ng N draw c = some ac → ∀ {G : Gh} {ρ : Nat → Value} {h : Heap} {a : Act} {w : World}, SRel G N ρ h a w → ng ≤ h.base → Step G0 h0 w0 G h w → ∀ {Q : Post}, wpC C ac Q ρ h → c.wp P (AfterQ G0 N h0 w0 Q) a w
  | .skip, ac, hc, G, ρ, h, a, w, S, hn, s0, Q, hw => by
    simp only [cCode, Option.some.injEq] at hc; subst hc
    exact wp_skip ⟨.normal, ρ, h, G, hw, S, s0, rfl⟩
  | .region id ops d, ac, hc, G, ρ, h, a, w, S, hn, s0, Q, hw => by
    simp only [cCode] at hc
    cases d with
    | true =>
      simp only [if_true, Option.map_eq_some_iff] at hc
      obtain ⟨al, h1, rfl⟩ := hc
      exact hD id ops al h1 S hn s0 hw
    | false =>
      simp only [Bool.false_eq_true, if_false, Option.map_eq_some_iff] at hc
      obtain ⟨al, h1, rfl⟩ := hc
      refine wp_region ?_
      have := ops_sound hC ops.toList 0 al (fun j o hj => by simpa using hj) h1 S hn s0 hw
      rw [List.range_eq_range']
      simpa using this
  | .seq x y, ac, hc, G, ρ, h, a, w, S, hn, s0, Q, hw => by
    simp only [cCode] at hc
    split at hc
    · rename_i ax ay hx hy
      simp only [Option.some.injEq] at hc; subst hc
      refine wp_seq (wp_mono (code_sound hC hD x ax hx S hn s0 hw) fun e a' w' q => ?_)
      obtain ⟨e0, ρ', h', G', q1, q2, q3, q4⟩ := q
      cases e0 with
      | normal => simp only at q4; subst q4; exact code_sound hC hD y ay hy q2 (by have := q3.base; have := s0.base; omega) q3 q1
      | exit i => simp only at q4; subst q4; exact ⟨.exit i, ρ', h', G', q1, q2, q3, rfl⟩
      | ret => simp only at q4; subst q4; exact ⟨.ret, ρ', h', G', q1, q2, q3, rfl⟩
    · cases hc
  | .cond c x y, ac, hc, G, ρ, h, a, w, S, hn, s0, Q, hw => by
    simp only [cCode] at hc
    split at hc
    · rename_i hok
      split at hc
      · rename_i ax ay hx hy
        simp only [Option.some.injEq] at hc; subst hc
        have e1 := S.frame.ev S.heap.low hn hok
        simp only [wpC] at hw
        split at hw
        · rename_i t ht
          rw [ht] at e1
          have hac : a.eval c = .bool t := by
            generalize a.eval c = u' at e1
            cases e1; rfl
          split at hw
          · rename_i htt; subst htt; exact wp_cond hac (code_sound hC hD x ax hx S hn s0 hw)
          · rename_i htt
            have : t = false := by simpa using htt
            subst this; exact wp_cond hac (code_sound hC hD y ay hy S hn s0 hw)
        · exact hw.elim
      · cases hc
    · cases hc
  | .block id c, ac, hc, G, ρ, h, a, w, S, hn, s0, Q, hw => by
    simp only [cCode, Option.map_eq_some_iff] at hc
    obtain ⟨ax, hx, rfl⟩ := hc
    refine wp_block (wp_mono (code_sound hC hD c ax hx S hn s0 hw) fun e a' w' q => ?_)
    obtain ⟨e0, ρ', h', G', q1, q2, q3, q4⟩ := q
    cases e0 with
    | normal => simp only at q4; subst q4; exact ⟨.normal, ρ', h', G', q1, q2, q3, rfl⟩
    | exit i =>
      simp only at q4; subst q4
      simp only [blockP] at q1
      simp only [Exit.inBlock]
      split
      · rename_i hi; rw [if_pos hi] at q1; exact ⟨.normal, ρ', h', G', q1, q2, q3, rfl⟩
      · rename_i hi; rw [if_neg hi] at q1; exact ⟨.exit i, ρ', h', G', q1, q2, q3, rfl⟩
    | ret => simp only at q4; subst q4; exact ⟨.ret, ρ', h', G', q1, q2, q3, rfl⟩
  | .loop c, ac, hc, G, ρ, h, a, w, S, hn, s0, Q, hw => by
    simp only [cCode, Option.map_eq_some_iff] at hc
    obtain ⟨ax, hx, rfl⟩ := hc
    obtain ⟨n, hw⟩ := hw
    refine LoopAt.wp ?_
    have key : ∀ n {G : Gh} {ρ : Nat → Value} {h : Heap} {a : Act} {w : World}, SRel G N ρ h a w → ng ≤ h.base → Step G0 h0 w0 G h w → loopN (wpC C ax) n Q ρ h → LoopAt P c (AfterQ G0 N h0 w0 Q) a w := by
      intro n
      induction n with
      | zero => intro G ρ h a w S hn s0 hw; exact hw.elim
      | succ n ih =>
        intro G ρ h a w S hn s0 hw
        refine LoopAt.round (wp_mono (code_sound hC hD c ax hx S hn s0 hw) fun e a' w' q => ?_)
        obtain ⟨e0, ρ', h', G', q1, q2, q3, q4⟩ := q
        cases e0 with
        | normal => simp only at q4; subst q4; exact ih q2 (by have := q3.base; have := s0.base; omega) q3 q1
        | exit i => simp only at q4; subst q4; exact ⟨.exit i, ρ', h', G', q1, q2, q3, rfl⟩
        | ret => simp only at q4; subst q4; exact ⟨.ret, ρ', h', G', q1, q2, q3, rfl⟩
    exact key n S hn s0 hw
  | .exit id, ac, hc, G, ρ, h, a, w, S, hn, s0, Q, hw => by
    simp only [cCode, Option.some.injEq] at hc; subst hc
    exact wp_exit ⟨.exit id, ρ, h, G, hw, S, s0, rfl⟩
  | .ret, ac, hc, G, ρ, h, a, w, S, hn, s0, Q, hw => by
    simp only [cCode, Option.some.injEq] at hc; subst hc
    exact wp_ret ⟨.ret, ρ, h, G, hw, S, s0, rfl⟩
  | .rangeFunc _ _ _ _, ac, hc, G, ρ, h, a, w, S, hn, s0, Q, hw => by simp [cCode] at hc
  | .scope _, ac, hc, G, ρ, h, a, w, S, hn, s0, Q, hw => by simp [cCode] at hc
  | .label _, ac, hc, G, ρ, h, a, w, S, hn, s0, Q, hw => by simp [cCode] at hc
  | .goto _, ac, hc, G, ρ, h, a, w, S, hn, s0, Q, hw => by simp [cCode] at hc
  | .refuse _, ac, hc, G, ρ, h, a, w, S, hn, s0, Q, hw => by simp [cCode] at hc

/-! ### Calls -/
def cRes (P : Program) (N : Nat) : List ResultVar → Option (List ARes)
  | [] => some []
  | .tmp t :: r => (cRes P N r).map (.tmp t :: ·)
  | .cell t ty :: r => match P.underlying ty, szOf P ty, cRes P N r with
    | some d, some n, some l => some ((if isAggT d then .cell n true t else .cell 1 false t) :: l)
    | _, _, _ => none

/-- A result that is known: it leads nowhere, and the model's call comes to it in every memory. -/
structure KnownOk (P : Program) (ng : Nat) (f : FuncId) (args : List Value) (v : Value) : Prop where
  closed : ∀ G, VRel G v v
  exact_ : ∀ G args', VRels G args args' → args' = args
  calls : ∀ w : World, ng ≤ w.heap.size → Calls P f args.toArray w fun e w' => e = .returned v ∧ Go.RowKit.Below w.heap.size w w'

theorem HRel.below {G : Gh} {h : Heap} {w w' : World} (H : HRel G h w) (b : Go.RowKit.Below w.heap.size w w') : HRel G h w' where
  low := H.low
  size := Nat.le_trans H.size b.size
  ro := fun x o hx ho => by
    obtain ⟨C, T, fz, h1, h2⟩ := H.ro x o hx ho
    exact ⟨C, T, fz, by rw [b.block _ (lt_of_heap h1)]; exact h1, h2⟩
  own := fun x o hx ho => by
    obtain ⟨c, k, C, T, h1, h2, h3, h4, h5, h6⟩ := H.own x o hx ho
    exact ⟨c, k, C, T, h1, h2, by rw [b.block _ (lt_of_heap h3)]; exact h3, h4, h5, h6⟩
  inj := H.inj
theorem Step.below {G : Gh} {h : Heap} {w w' : World} (b : Go.RowKit.Below w.heap.size w w') : Step G h w G h w' where
  le := G.le_refl
  base := rfl
  next := Nat.le_refl _
  os := b.os
  tape := b.tape
  output := b.output
  size := b.size
  keeps := fun c hc _ => b.block c hc
  img := fun c h => .inl h

def FnOk (P : Program) (ng : Nat) (draw : FuncId → Nat → Nat → Array Oper → Option (List AOper)) (f : FuncId) (af : AFn) : Prop :=
  ∃ fn c, P.funcs[f]? = some fn ∧ fn.body = some c ∧ (fn.name == "runtime.NumGoroutine") = false ∧ cCode P ng fn.ntmps (draw f fn.ntmps) c = some af.body ∧ cRes P fn.ntmps fn.results.toList = some af.results ∧ af.n = fn.ntmps ∧ ∀ a v, (a, v) ∈ af.known → KnownOk P ng f a v

/-- The model's reading of one result. -/
def resOf (tmps : Array Value) : ResultVar → Sem Value
  | .tmp t => pure (tmps.getD t undef)
  | .cell a t => do loadVar t (← asAddr (tmps.getD a undef))

theorem results_eq (fn : Func) (tmps : Array Value) : results fn tmps = (do
    let vs ← fn.results.mapM (resOf tmps)
    pure (if h : vs.size = 1 then vs[0] else .tuple vs)) := by
  unfold results
  congr 1

theorem res_run {P : Program} {N : Nat} {G : Gh} {ρ : Nat → Value} {h : Heap} {a : Act} {w : World} (R : FRel G ρ a) (H : HRel G h w) : ∀ (l : List ResultVar) (rs : List ARes), cRes P N l = some rs → ∀ vs, resList ρ h rs = some vs →
    ∃ vs', VRels G vs vs' ∧ (l.mapM (resOf a.tmps)).run P w = .ok vs' w
  | [], rs, hc, vs, hv => by
    simp only [cRes, Option.some.injEq] at hc; subst hc
    simp only [resList, Option.some.injEq] at hv; subst hv
    exact ⟨[], .nil, by simp⟩
  | .tmp t :: l, rs, hc, vs, hv => by
    simp only [cRes, Option.map_eq_some_iff] at hc
    obtain ⟨rs', h1, rfl⟩ := hc
    simp only [resList, resA] at hv
    split at hv
    · rename_i v vs1 e1 e2
      simp only [Option.some.injEq] at hv e1; subst hv; subst e1
      obtain ⟨vs', q1, q2⟩ := res_run R H l rs' h1 vs1 e2
      exact ⟨_, .cons (R t) q1, by simp [resOf, q2]⟩
    · cases hv
  | .cell t ty :: l, rs, hc, vs, hv => by
    simp only [cRes] at hc
    split at hc
    · rename_i d n rs' hd hs h1
      simp only [Option.some.injEq] at hc; subst hc
      simp only [resList] at hv
      split at hv
      · rename_i v vs1 e1 e2
        simp only [Option.some.injEq] at hv; subst hv
        obtain ⟨vs', q1, q2⟩ := res_run R H l rs' h1 vs1 e2
        have key : ∃ v', VRel G v v' ∧ (resOf a.tmps (.cell t ty)).run P w = .ok v' w := by
          have hload : ∃ n g, cL P (.load ty (.tmp t)) = some (n, g, .tmp t) ∧ loadA h n g (ρ t) = some v := by
            simp only [cL, hd, hs]
            split
            · rename_i hg; rw [if_pos hg] at e1; exact ⟨n, true, rfl, e1⟩
            · rename_i hg; rw [if_neg hg] at e1; exact ⟨1, false, rfl, e1⟩
          obtain ⟨n', g, k1, k2⟩ := hload
          obtain ⟨v', k3, k4⟩ := load_sound (P := P) (o := { (default : Oper) with op := .load ty (.tmp t) }) k1 (a := a) (ρ := ρ) (fun x hx => by simp [Op.operands] at hx; subst hx; exact R t) H k2
          refine ⟨v', k3, ?_⟩
          simp only [execOp] at k4
          have hp := R t
          have : ∃ ad, a.tmps.getD t undef = .pointer (some ad) := by
            unfold loadA at k2
            split at k2
            · rename_i e; rw [e] at hp; generalize a.tmps.getD t undef = u at hp; cases hp; exact ⟨_, rfl⟩
            · cases k2
          obtain ⟨ad, had⟩ := this
          simp only [Act.eval, had, Instr.loadAt, Instr.sureAddr] at k4
          simp only [resOf, had]
          simp at k4
          simp [asAddr]
          generalize (loadVar ty ad).run P w = r at *
          cases r with
          | ok x w1 => simp at k4; rw [k4.1, k4.2]
          | halt x w1 => simp at k4
        obtain ⟨v', k1, k2⟩ := key
        exact ⟨_, .cons k1 q1, by simp [k2, q2]⟩
      · cases hv
    · cases hc

theorem oneOrTuple_rel {G : Gh} {vs vs' : List Value} (h : VRels G vs vs') : VRel G (oneOrTuple vs) (if h : vs'.toArray.size = 1 then vs'.toArray[0] else .tuple vs'.toArray) := by
  cases h with
  | nil => exact .tuple (c := []) (c' := []) .nil
  | cons h1 h2 =>
    cases h2 with
    | nil => simpa [oneOrTuple] using h1
    | cons h3 h4 =>
      have := VRel.tuple (.cons h1 (.cons h3 h4))
      simpa [oneOrTuple] using this

theorem call_sound {P : Program} {ng : Nat} {T : FuncId → Option AFn} {draw : FuncId → Nat → Nat → Array Oper → Option (List AOper)} (hT : ∀ f af, T f = some af → FnOk P ng draw f af)
    (hD : ∀ f N n, CallSound P ng (wpCall T n) → DrawSound P ng N (wpCall T n) (draw f N)) : ∀ n, CallSound P ng (wpCall T n)
  | 0 => fun f args h R hw => hw.elim
  | n + 1 => fun f args h R hw G w args' H F hn hargs => by
    unfold wpCall at hw
    split at hw
    · rename_i af haf
      obtain ⟨fn, c, h1, h2, h3, h4, h5, h6, h7⟩ := hT f af haf
      refine ⟨⟨fn, h1, by simp [h2], h3⟩, ?_⟩
      rcases hw with ⟨v, hv, hw⟩ | ⟨hlen, hw⟩
      · have K := h7 args v hv
        have e := K.exact_ G args' hargs
        subst e
        exact (K.calls w (Nat.le_trans hn H.size)).mono fun e w' he => ⟨v, v, h, G, he.1, hw, K.closed G, H.below he.2, F, .below he.2⟩
      have hC := call_sound hT hD n
      have hl := hargs.length
      have S : SRel G fn.ntmps (enter args) h { tmps := args'.toArray ++ Array.replicate (fn.ntmps - args'.toArray.size) undef, defers := [] } w := by
        refine ⟨fun i => ?_, by simp; omega, rfl, H, F⟩
        simp only [enter, List.getD_eq_getElem?_getD]
        by_cases hi : i < args.length
        · have e1 : args[i]? = some args[i] := List.getElem?_eq_getElem hi
          obtain ⟨v', e2, e3⟩ := hargs.get i _ e1
          have e4 : (args'.toArray ++ Array.replicate (fn.ntmps - args'.toArray.size) undef).getD i undef = v' := by
            have hi' : i < args'.length := by omega
            have : args'[i] = v' := by rw [List.getElem?_eq_getElem hi'] at e2; simpa using e2
            rw [Array.getD_eq_getD_getElem?, Array.getElem?_append_left (by simpa using hi')]
            simp [hi', this]
          rw [e4, e1]; exact e3
        · have e1 : args[i]? = none := List.getElem?_eq_none (by omega)
          have e4 : (args'.toArray ++ Array.replicate (fn.ntmps - args'.toArray.size) undef).getD i undef = undef := by
            rw [Array.getD_eq_getD_getElem?, Array.getElem?_append_right (by simp; omega)]
            simp [Array.getElem?_replicate]
            split <;> rfl
          rw [e4, e1]; exact .tuple (c := []) (c' := []) .nil
      have hcode := code_sound hC (hD f fn.ntmps n hC) c af.body h4 S hn (.refl G h w) hw
      refine calls_of_wp h1 h2 (wp_mono hcode fun e a' w' q => ?_)
      obtain ⟨e0, ρ', h', G', q1, q2, q3, q4⟩ := q
      have fin : ∀ (K : (match resList ρ' h' af.results with | some vs => R (oneOrTuple vs) h' | none => False)), a'.defers = [] ∧ ∃ v, (results fn a'.tmps).run P w' = .ok v w' ∧ ∃ v1 v' h' G', (Ending.returned v) = .returned v' ∧ R v1 h' ∧ VRel G' v1 v' ∧ HRel G' h' w' ∧ Fresh G' h' ∧ Step G h w G' h' w' := by
        intro K
        split at K
        · rename_i vs hvs
          obtain ⟨vs', r1, r2⟩ := res_run (P := P) q2.frame q2.heap fn.results.toList af.results h5 vs hvs
          refine ⟨q2.defers, (if h : vs'.toArray.size = 1 then vs'.toArray[0] else .tuple vs'.toArray), ?_, _, _, h', G', rfl, K, oneOrTuple_rel r1, q2.heap, q2.fresh, q3⟩
          rw [results_eq, Array.mapM_eq_mapM_toList]
          simp [r2]
        · exact K.elim
      cases e0 with
      | normal => simp only at q4; subst q4; exact fin q1
      | exit i => exact q1.elim
      | ret => simp only at q4; subst q4; exact fin q1
    · exact hw.elim

end Go.AM
