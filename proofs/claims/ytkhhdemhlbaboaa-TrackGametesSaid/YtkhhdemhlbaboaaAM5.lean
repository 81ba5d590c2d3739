/- The abstract machine, part 5: one operation; a region in the order of the text. -/
import Derived.Test.YtkhhdemhlbaboaaAM4
set_option linter.unusedVariables false
set_option linter.unusedSimpArgs false
namespace Go.AM

theorem cOper_spec {P : Program} {ng N : Nat} {ops : Array Oper} {keep : List (Operand × Nat)} {o : Oper} {ao : AOper} (h : cOper P ng N ops keep o = some ao) :
    dstOk N o.dst = true ∧ opsOk ng o.op = true ∧ cGuard ops o.guard = some ao.guard ∧ cOp P o.op = some ao.op ∧ ao.dst = o.dst ∧ ao.keep = keep := by
  unfold cOper at h
  split at h
  · rename_i hc
    split at h
    · rename_i g p hg hp
      simp only [Option.some.injEq] at h; subst h
      exact ⟨hc.1, hc.2, hg, hp, rfl, rfl⟩
    · cases h
  · cases h

theorem cOp_p {P : Program} {o : Op} {q : POp} (h : cOp P o = some (.p q)) : cP P o = some q := by
  unfold cOp at h
  split at h
  · rename_i q' e; simp only [Option.some.injEq, AOp.p.injEq] at h; subst h; exact e
  · (repeat' split at h) <;> simp at h
theorem cOp_l {P : Program} {o : Op} {n : Nat} {g : Bool} {x : Operand} (h : cOp P o = some (.l n g x)) : cL P o = some (n, g, x) := by
  unfold cOp at h
  split at h
  · simp at h
  · split at h
    · rename_i e; simp only [Option.some.injEq, AOp.l.injEq] at h; obtain ⟨rfl, rfl, rfl⟩ := h; exact e
    · (repeat' split at h) <;> simp at h
theorem cOp_a {P : Program} {o : Op} {q : AlOp} (h : cOp P o = some (.a q)) : cA P o = some q := by
  unfold cOp at h
  split at h
  · simp at h
  · split at h
    · simp at h
    · split at h
      · rename_i e; simp only [Option.some.injEq, AOp.a.injEq] at h; subst h; exact e
      · (repeat' split at h) <;> simp at h
theorem cOp_e {P : Program} {o : Op} {q : EOp} (h : cOp P o = some (.e q)) : cE P o = some q := by
  unfold cOp at h
  split at h
  · simp at h
  · split at h
    · simp at h
    · split at h
      · simp at h
      · split at h
        · rename_i e; simp only [Option.some.injEq, AOp.e.injEq] at h; subst h; exact e
        · (repeat' split at h) <;> simp at h
theorem cOp_c {P : Program} {o : Op} {f : Operand} {args : List Operand} (h : cOp P o = some (.c f args)) : ∃ as at_, o = .call { callee := .value f, args := as, argTypes := at_ } ∧ args = as.toList := by
  unfold cOp at h
  split at h
  · simp at h
  · split at h
    · simp at h
    · split at h
      · simp at h
      · split at h
        · simp at h
        · split at h
          · simp only [Option.some.injEq, AOp.c.injEq] at h; obtain ⟨rfl, rfl⟩ := h; exact ⟨_, _, rfl, rfl⟩
          · simp at h
          · simp at h

theorem cOp_i {P : Program} {o : Op} {x : Operand} {tbl : List (TypeId × FuncId)} {args : List Operand} (h : cOp P o = some (.i x tbl args)) : ∃ name as at_, o = .call { callee := .invoke x name, args := as, argTypes := at_ } ∧ tbl = methTbl P name ∧ args = as.toList := by
  unfold cOp at h
  split at h
  · simp at h
  · split at h
    · simp at h
    · split at h
      · simp at h
      · split at h
        · simp at h
        · split at h
          · simp at h
          · simp only [Option.some.injEq, AOp.i.injEq] at h; obtain ⟨rfl, rfl, rfl⟩ := h; exact ⟨_, _, _, rfl, rfl, rfl⟩
          · simp at h

theorem methTbl_spec {P : Program} {name : String} {t : TypeId} {f : FuncId} (h : (methTbl P name).lookup t = some f) : methOf P name t = some f := by
  unfold methTbl at h
  generalize List.range P.types.size = l at h
  induction l with
  | nil => cases h
  | cons a l ih =>
    rw [List.filterMap_cons] at h
    split at h
    · exact ih h
    · rename_i p hp
      simp only [Option.map_eq_some_iff] at hp
      obtain ⟨g, hg, rfl⟩ := hp
      rw [List.lookup_cons] at h
      split at h
      · rename_i he
        simp only [beq_iff_eq] at he; subst he
        simp only [Option.some.injEq] at h; subst h
        exact hg
      · exact ih h

theorem method_run {P : Program} {name : String} {t : TypeId} {f : FuncId} (h : methOf P name t = some f) (n : Nat) (v : Value) (w : World) : (method (n + 1) t v name).run P w = .ok (f, v) w := by
  unfold methOf at h
  split at h
  · rename_i i d hi hd
    split at h
    · rename_i m hm
      rw [Array.find?_toList] at hm
      split at h
      · cases h
      · rename_i hp hf hnp
        simp only [Option.some.injEq] at h; subst h
        unfold method
        simp only [Sem.run_bind, typeInfo]
        simp [hi, hm, hp, hf, follow, receiverAt, run_underlying hd, Place.get]
        first | done | (cases d <;> first | exact (hnp _ rfl).elim | simp)
      · cases h
    · cases h
  · cases h

theorem invoke_enters {P : Program} {o : Oper} {a : Act} {x : Operand} {name : String} {as : Array Operand} {at_ : Array TypeId} (ho : o.op = .call { callee := .invoke x name, args := as, argTypes := at_ }) {t : TypeId} {v : Value} {fid : FuncId} (hx : a.eval x = .iface t v) (hm : methOf P name t = some fid)
    {fn : Func} (hfn : P.funcs[fid]? = some fn) (hb : fn.body.isSome = true) (hname : (fn.name == "runtime.NumGoroutine") = false) (w : World) :
    (execOp a.eval o).run P w = .ok (.enter fid (v :: as.toList.map a.eval).toArray) w := by
  unfold execOp
  simp only [ho]
  have hbn : ¬ fn.body = none := by cases h : fn.body <;> simp [h] at hb ⊢
  have hname' : ¬ fn.name = "runtime.NumGoroutine" := by simpa using hname
  have hmr := fun w => method_run (P := P) hm (P.types.size + Made.depth - 1) v w
  have hpos : P.types.size + Made.depth - 1 + 1 = P.types.size + Made.depth := by have : 0 < Made.depth := by decide
                                                                                  omega
  rw [hpos] at hmr
  have h0 : (#[Value.iface t v] ++ Array.map a.eval as)[0]? = some (.iface t v) := by rw [Array.getElem?_append_left (Nat.succ_pos 0)]; rfl
  have h1 : (#[Value.iface t v] ++ Array.map a.eval as).extract 1 (#[Value.iface t v] ++ Array.map a.eval as).size = Array.map a.eval as := by
    apply Array.toList_inj.1; simp; exact List.take_of_length_le (by simp)
  simp only [resolve, hx, invoke, Sem.run_bind, Sem.run_pure, Result.andThen_ok, h0, callMethod, h1]
  simp [hmr, callFunc, hfn, hname', hbn]

theorem call_enters {P : Program} {o : Oper} {a : Act} {f : Operand} {as : Array Operand} {at_ : Array TypeId} (ho : o.op = .call { callee := .value f, args := as, argTypes := at_ }) {fid : FuncId} {first cap : List Value} (hf : a.eval f = .func (.func fid) first.toArray cap.toArray)
    {fn : Func} (hfn : P.funcs[fid]? = some fn) (hb : fn.body.isSome = true) (hname : (fn.name == "runtime.NumGoroutine") = false) (w : World) :
    (execOp a.eval o).run P w = .ok (.enter fid (first ++ as.toList.map a.eval ++ cap).toArray) w := by
  unfold execOp
  simp only [ho]
  have hbn : ¬ fn.body = none := by cases h : fn.body <;> simp [h] at hb ⊢
  have hname' : ¬ fn.name = "runtime.NumGoroutine" := by simpa using hname
  simp [resolve, hf, Deferred.ofValue, invoke, callFunc, hfn, hname', hbn]

/-- What an operation comes to: at once, or by a call. -/
def Comes1 (P : Program) (o : Oper) (a : Act) (w : World) (K : Value → World → Prop) : Prop :=
  (∃ v' w', Does P o a w v' w' ∧ K v' w') ∨
  (∃ f args, (execOp a.eval o).run P w = .ok (.enter f args) w ∧ Calls P f args w fun e w' => ∃ v', e = .returned v' ∧ K v' w')

theorem Comes1.wp {P : Program} {o : Oper} {a : Act} {w : World} {K : Value → World → Prop} (h : Comes1 P o a w K) {next : Act → World → Prop} (hk : ∀ v' w', K v' w' → next (a.put o.dst v') w') (Q : Exit → Act → World → Prop) : o.wp P a w next Q := by
  unfold Oper.wp
  rcases h with ⟨v', w', h | ⟨h, rfl⟩, k⟩ | ⟨f, args, h, hc⟩
  · rw [h, Oper.upon_value]; exact hk _ _ k
  · rw [h, Oper.upon_skip]; exact hk _ _ k
  · rw [h, Oper.upon_enter]
    refine hc.mono fun e w' he => ?_
    obtain ⟨v', rfl, k⟩ := he
    exact hk _ _ k

/-- One operation. -/
theorem oper_comes {P : Program} {ng N : Nat} {C : CallP} (hC : CallSound P ng C) {ops : Array Oper} {keep : List (Operand × Nat)} {o : Oper} {ao : AOper} (hc : cOper P ng N ops keep o = some ao) {G : Gh} {ρ : Nat → Value} {h : Heap} {a : Act} {w : World}
    (E : ∀ x, x ∈ o.op.operands → VRel G (ev ρ x) (a.eval x)) (H : HRel G h w) (F : Fresh G h) (hn : ng ≤ h.base) {K : Value → Heap → Prop} (hw : wpOp C ao ρ h K) :
    Comes1 P o a w fun v' w' => ∃ v h' G', K v h' ∧ VRel G' v v' ∧ HRel G' h' w' ∧ Fresh G' h' ∧ Step G h w G' h' w' := by
  obtain ⟨h1, h2, h3, h4, h5, h6⟩ := cOper_spec hc
  obtain ⟨dst, guard, op, keep'⟩ := ao
  simp only at h3 h4 h5 h6
  subst h5
  cases op with
  | p q =>
    simp only [wpOp] at hw
    split at hw
    · rename_i v hv
      obtain ⟨v', e1, e2⟩ := pop_sound (cOp_p h4) E hv
      exact .inl ⟨v', w, .inl (e2 w), v, h, G, hw, e1, H, F, .refl _ _ _⟩
    · exact hw.elim
  | l n agg x =>
    simp only [wpOp] at hw
    split at hw
    · rename_i v hv
      obtain ⟨v', e1, e2⟩ := load_sound (P := P) (cOp_l h4) E H hv
      exact .inl ⟨v', w, .inl e2, v, h, G, hw, e1, H, F, .refl _ _ _⟩
    · exact hw.elim
  | a q =>
    simp only [wpOp] at hw
    split at hw
    · rename_i cs f hv
      obtain ⟨Cc, T, f', e1, e2, e3⟩ := al_sound (P := P) (cOp_a h4) E hv
      have hfr := F.free _ (Nat.le_refl _)
      have hlen := e1.length
      have hR := H.new (id := h.next) (o := { cells := cs, esz := 0 }) (C := Cc) (T := T) (k := 0) F.le hfr.1 (by simp) (by rw [← hlen]; simp) (by rw [← hlen, Array.length_toList, ← Array.length_toList, List.take_length]; exact e1)
      have hS := Step.new (w := w) (id := h.next) hfr.1 hfr.2 { cells := cs, esz := 0 } Cc T 0 (h.next + 1) (by omega)
      exact .inl ⟨_, _, .inl (e3 w), _, _, _, hw, e2 _ h.next w.heap.size 0 (by simp [Gh.set]), hR.of_next _, F.new _ _, hS⟩
    · exact hw.elim
  | e q =>
    simp only [wpOp] at hw
    split at hw
    · rename_i v h' hv
      obtain ⟨v', w', G', e0, e1, e2, e3, e4⟩ := eop_sound (P := P) (cOp_e h4) E H F hv
      exact .inl ⟨v', w', e0, v, h', G', hw.2, e1, e2, e3, e4⟩
    · exact hw.elim
  | c f args =>
    simp only [wpOp] at hw
    obtain ⟨as, at_, ho, rfl⟩ := cOp_c h4
    split at hw
    · rename_i fid first cap hf
      have hfx := E f (by rw [ho]; simp [Op.operands, Call.operands])
      rw [hf] at hfx
      have hargs := VRels.map_ev (G := G) (ρ := ρ) (a := a) (l := as.toList) (fun x hx => E x (by rw [ho]; simp [Op.operands, Call.operands]; exact .inr (by simpa using hx)))
      generalize hfe : a.eval f = f' at hfx
      cases hfx with
      | func _ r1 r2 =>
        rename_i x x' c c'
        obtain ⟨⟨fn, q1, q2, q3⟩, hcall⟩ := hC _ _ _ _ hw G w _ H F hn ((r1.append hargs).append r2)
        refine .inr ⟨_, _, call_enters ho hfe q1 q2 q3 w, hcall.mono fun e w' he => ?_⟩
        obtain ⟨v, v', h', G', rfl, g1, g2, g3, g4, g5⟩ := he
        exact ⟨v', rfl, v, h', G', g1.2, g2, g3, g4, g5⟩
    · exact hw.elim
  | i x tbl args =>
    simp only [wpOp] at hw
    obtain ⟨name, as, at_, ho, rfl, rfl⟩ := cOp_i h4
    split at hw
    · rename_i t v hf
      have hfx := E x (by rw [ho]; simp [Op.operands, Call.operands])
      rw [hf] at hfx
      have hargs := VRels.map_ev (G := G) (ρ := ρ) (a := a) (l := as.toList) (fun x hx => E x (by rw [ho]; simp [Op.operands, Call.operands]; exact .inr (by simpa using hx)))
      generalize hfe : a.eval x = f' at hfx
      split at hw
      · rename_i fid hl
        cases hfx with
        | iface _ r1 =>
          obtain ⟨⟨fn, q1, q2, q3⟩, hcall⟩ := hC _ _ _ _ hw G w _ H F hn (.cons r1 hargs)
          refine .inr ⟨_, _, invoke_enters ho hfe (methTbl_spec hl) q1 q2 q3 w, hcall.mono fun e w' he => ?_⟩
          obtain ⟨v, v', h', G', rfl, g1, g2, g3, g4, g5⟩ := he
          exact ⟨v', rfl, v, h', G', g1.2, g2, g3, g4, g5⟩
      · exact hw.elim
    · exact hw.elim

theorem oper_sound {P : Program} {ng N : Nat} {C : CallP} (hC : CallSound P ng C) {ops : Array Oper} {keep : List (Operand × Nat)} {o : Oper} {ao : AOper} (hc : cOper P ng N ops keep o = some ao) {G : Gh} {ρ : Nat → Value} {h : Heap} {a : Act} {w : World}
    (S : SRel G N ρ h a w) (hn : ng ≤ h.base) {K : Value → Heap → Prop} (hw : wpOp C ao ρ h K) (Q : Exit → Act → World → Prop) :
    o.wp P a w (fun a' w' => ∃ v h' G', K v h' ∧ SRel G' N (put ρ ao.dst v) h' a' w' ∧ Step G h w G' h' w') Q := by
  obtain ⟨h1, h2, h3, h4, h5, h6⟩ := cOper_spec hc
  have := oper_comes hC hc (a := a) (fun x hx => S.frame.ev S.heap.low hn (opsOk_get h2 hx)) S.heap S.fresh hn hw
  refine this.wp (fun v' w' hk => ?_) Q
  obtain ⟨v, h', G', k, e1, e2, e3, e4⟩ := hk
  rw [h5]
  exact ⟨v, h', G', k, ⟨(S.frame.mono e4.le).put S.size h1 e1, by rw [Act.put_size]; exact S.size, by rw [Act.put_def]; exact S.defers, e2, e3⟩, e4⟩

/-- What holds behind a piece of code. -/
def AfterQ (G : Gh) (N : Nat) (h : Heap) (w : World) (Q : Post) : Exit → Act → World → Prop := fun e a' w' =>
  ∃ e0 ρ' h' G', Q e0 ρ' h' ∧ SRel G' N ρ' h' a' w' ∧ Step G h w G' h' w' ∧
    (match e0 with
      | .normal => e = .normal
      | .exit i => e = .exit i
      | .ret => e = .ret)

theorem AfterQ.of_step {G G1 : Gh} {N : Nat} {h h1 : Heap} {w w1 : World} {Q : Post} (s : Step G h w G1 h1 w1) {e a w2} (q : AfterQ G1 N h1 w1 Q e a w2) : AfterQ G N h w Q e a w2 := by
  obtain ⟨e0, ρ', h', G', q1, q2, q3, q4⟩ := q
  exact ⟨e0, ρ', h', G', q1, q2, s.trans q3, q4⟩

/-- The operations of a region, in the order of the text. -/
def cOpers (P : Program) (ng N : Nat) (ops : Array Oper) : List Oper → Option (List AOper)
  | [] => some []
  | o :: r => match cOper P ng N ops [] o, cOpers P ng N ops r with
    | some x, some l => some (x :: l)
    | _, _ => none

theorem ops_sound {P : Program} {ng N : Nat} {C : CallP} (hC : CallSound P ng C) {ops : Array Oper} {G0 : Gh} {h0 : Heap} {w0 : World} : ∀ (l : List Oper) (k : Nat) (al : List AOper), (∀ j o, l[j]? = some o → ops[k + j]? = some o) → cOpers P ng N ops l = some al →
    ∀ {G : Gh} {ρ : Nat → Value} {h : Heap} {a : Act} {w : World}, SRel G N ρ h a w → ng ≤ h.base → Step G0 h0 w0 G h w → ∀ {Q : Post}, wpOps C al Q ρ h → Go.wpOps P ops (AfterQ G0 N h0 w0 Q) (List.range' k l.length) a w
  | [], k, al, _, hc, G, ρ, h, a, w, S, hn, s0, Q, hw => by
    simp only [cOpers, Option.some.injEq] at hc; subst hc
    exact ⟨.normal, ρ, h, G, hw, S, s0, rfl⟩
  | o :: l, k, al, ho, hc, G, ρ, h, a, w, S, hn, s0, Q, hw => by
    unfold cOpers at hc
    split at hc
    · rename_i x r hx hr
      simp only [Option.some.injEq] at hc; subst hc
      have hk : ops[k]? = some o := ho 0 o rfl
      have hl : ∀ j o, l[j]? = some o → ops[k + 1 + j]? = some o := fun j o' hj => by have := ho (j + 1) o' (by simpa using hj); rwa [show k + 1 + j = k + (j + 1) by omega]
      obtain ⟨h1, h2, h3, h4, h5, h6⟩ := cOper_spec hx
      rw [List.length_cons, List.range'_succ]
      simp only [Go.wpOps, hk]
      rw [want_rel S.frame h3]
      unfold wpOps at hw
      split
      · rename_i hg
        rw [if_pos hg] at hw
        refine .inl (Oper.wp_mono (fun a' w' hh => ?_) (oper_sound hC hx S hn hw _))
        obtain ⟨v, h', G', k1, k2, k3⟩ := hh
        exact ops_sound hC l (k + 1) r hl hr k2 (by rw [k3.base]; exact hn) (s0.trans k3) k1
      · rename_i hg
        rw [if_neg hg] at hw
        have S' : SRel G N (put ρ x.dst undef) h (a.put o.dst undef) w := ⟨by rw [h5]; exact S.frame.put S.size h1 (.tuple (c := []) (c' := []) .nil), by rw [Act.put_size]; exact S.size, by rw [Act.put_def]; exact S.defers, S.heap, S.fresh⟩
        exact ops_sound hC l (k + 1) r hl hr S' hn s0 hw
    · cases hc

end Go.AM
