/- The abstract machine, part 3: stores, appends and copies do the same in the model. -/
import Derived.Test.YtkhhdemhlbaboaaAM2
import Derived.Deep.Upon
set_option linter.unusedVariables false
set_option linter.unusedSimpArgs false
namespace Go.AM

/-- What a step of the model comes to. -/
def Does (P : Program) (o : Oper) (a : Act) (w : World) (v' : Value) (w' : World) : Prop :=
  (execOp a.eval o).run P w = .ok (.value v') w' ∨ ((execOp a.eval o).run P w = .ok .skip w' ∧ v' = undef)

theorem run_append_put {P : Program} {w w' : World} {t tx ty e : TypeId} {i : TypeInfo} (ht : P.underlying t = some (.slice e)) (hi : P.info? e = some i) {b off sLen sCap : Nat} {x : Value} {n : Nat} {news : List Value} (hs : Src P i.size tx x n news w)
    (hroom : sLen + n ≤ sCap) (hst : (storeCells ⟨b, off + sLen * i.size, none⟩ news).run P w = .ok () w') :
    (Builtin.append_ #[t, tx] ty #[.slice (some ⟨b, off, none⟩) sLen sCap, x]).run P w = .ok (.slice (some ⟨b, off, none⟩) (sLen + n) sCap) w' := by
  rcases hs.kind with ⟨e', hk⟩ | hk <;> simp [Builtin.append_, run_underlying ht, run_underlying hk, sizeOf, typeInfo, hi, hs.len, hroom, hs.cells, Addr.add_lit, hst]

theorem lenOf_rel {P : Program} {G : Gh} {x x' : Value} {n : Nat} (hx : VRel G x x') (hn : lenA x = some n) (w : World) : (Builtin.lenOf x').run P w = .ok n w := by
  cases hx <;> simp only [lenA, Option.some.injEq, reduceCtorEq] at hn <;> subst hn <;> rfl

/-- The cells that a source has. -/
theorem first_rel {P : Program} {h : Heap} {esz n : Nat} {x x' : Value} {news : List Value} {G : Gh} {w : World} (H : HRel G h w) (hx : VRel G x x') {L : Nat} (hl : lenA x = some L) (hL : n ≤ L) (hs : srcA h esz x n = some news) :
    ∃ news', VRels G news news' ∧ news.length = n * esz ∧ ∀ w', w'.heap = w.heap → (Builtin.firstCells esz n x').run P w' = .ok news'.toArray w' := by
  unfold srcA at hs
  split at hs
  · rename_i h0
    simp only [Option.some.injEq] at hs; subst hs; subst h0
    refine ⟨[], .nil, by simp, fun w' _ => ?_⟩
    cases hx <;> simp only [lenA, reduceCtorEq] at hl <;> simp [Builtin.firstCells, loadCells, loadCellsFrom]
  · have key : ∀ b c k o (l cap : Nat), G b = some (c, k) → h.read b o (n * esz) = some news →
        ∃ news', VRels G news news' ∧ news.length = n * esz ∧ ∀ w', w'.heap = w.heap → (Builtin.firstCells esz n (.slice (some ⟨c, o, none⟩) l cap)).run P w' = .ok news'.toArray w' := by
      intro b c k o l cap hG hr
      obtain ⟨c', k', cs', h1, h2, h3, h4⟩ := H.cells hr
      rw [hG] at h1; simp only [Option.some.injEq, Prod.mk.injEq] at h1; obtain ⟨rfl, rfl⟩ := h1
      refine ⟨cs', h2, h3, fun w' hw' => ?_⟩
      have hlen := h2.length
      have hld := run_loadCells_list (P := P) (w := w') ⟨c, o, none⟩ cs' (fun j v hj => by
        have := h4 j v hj
        rw [Addr.add_eq]
        simpa [World.cell?, hw'] using this)
      rw [show cs'.length = n * esz from by omega] at hld
      simpa [Builtin.firstCells] using hld
    cases hx <;> simp only [reduceCtorEq] at hs
    case slice h => exact key _ _ _ _ _ _ h hs
    case grown h _ => exact key _ _ _ _ _ _ h hs
    case part h _ => exact key _ _ _ _ _ _ h hs
    case empty a m =>
      simp only [lenA, Option.some.injEq] at hl; omega

theorem src_rel {P : Program} {h : Heap} {esz n : Nat} {x x' : Value} {news : List Value} {G : Gh} {w : World} {tx e' : TypeId} (hk : P.underlying tx = some (.slice e')) (H : HRel G h w) (hx : VRel G x x') (hl : lenA x = some n) (hs : srcA h esz x n = some news) (h1 : news.all (·.oneCell') = true) :
    ∃ news', VRels G news news' ∧ Src P esz tx x' n news' w := by
  obtain ⟨news', e1, e2, e3⟩ := first_rel (P := P) H hx hl (Nat.le_refl _) hs
  exact ⟨news', e1, ⟨.inl ⟨e', hk⟩, fun w' => lenOf_rel hx hl w', e3 w rfl, e3 w.drew rfl, by rw [e1.length]; exact e2, e1.one h1⟩⟩

/-- An append that makes a new row. -/
theorem grow_sound {P : Program} {h : Heap} {G : Gh} {w : World} (H : HRel G h w) (F : Fresh G h) {t tx ty e : TypeId} {i : TypeInfo} {z : Value} (ht : P.underlying t = some (.slice e)) (hi : P.info? e = some i) (hz : i.zero = some z) (hzs : z.cells.toList.length = i.size)
    {base : Option Addr} {l cap : Nat} {olds olds' : List Value} (hold : (Builtin.firstCells i.size l (.slice base l cap)).run P w.drew = .ok olds'.toArray w.drew) (ho : VRels G olds olds') (hol : olds.length = l * i.size)
    {x : Value} {n : Nat} {news news' : List Value} (hs : Src P i.size tx x n news' w) (hn : VRels G news news') (hg : cap < l + n) (hb : (l + n) * i.bytes ≤ 70368744177664) (h62 : l + n ≤ 4611686018427387904) (hsz : i.size ≠ 0) :
    ∃ v' w' G', (Builtin.append_ #[t, tx] ty #[.slice base l cap, x]).run P w = .ok v' w' ∧ VRel G' (growA h i.size (olds ++ news) (l + n)).1 v' ∧ HRel G' (growA h i.size (olds ++ news) (l + n)).2 w' ∧ Fresh G' (growA h i.size (olds ++ news) (l + n)).2 ∧
      Step G h w G' (growA h i.size (olds ++ news) (l + n)).2 w' := by
  have hr := run_append_grow_src (P := P) w t tx ty e i z ht hi hz base l cap olds' hold x n news' hs hg (by omega) (growslice_fits hg (by omega))
  have hge := grownCap_ge w (l + n) cap e
  generalize hcap : grownCap w (l + n) cap e = nc at hr hge
  refine ⟨_, _, G.set h.next (w.heap.size, nc), hr, ?_, ?_, ?_, ?_⟩
  · exact .grown _ (by simp [Gh.set]) hge
  · have hnl := hs.newsLen
    have hol' := ho.length
    have hnl' := hn.length
    have hcl : ((olds' ++ news').toArray ++ Builtin.zeroCells z.cells (nc - (l + n))).size = nc * i.size := by
      rw [Array.size_append, size_zeroCells]
      have : z.cells.size = i.size := by rw [← hzs]; simp
      rw [this, List.size_toArray, List.length_append, hol', hol, hnl, ← Nat.add_mul, ← Nat.add_mul]
      congr 1; omega
    have := (H.drew).new (id := h.next) (o := { cells := olds ++ news, esz := i.size }) (C := (olds' ++ news').toArray ++ Builtin.zeroCells z.cells (nc - (l + n))) (T := e) (k := nc) F.le (F.free _ (Nat.le_refl _)).1
      (fun _ => hcl) (by rw [hcl, List.length_append, hol, ← hnl', hnl, ← Nat.add_mul]; exact Nat.mul_le_mul_right _ hge)
      (by
        have e1 : (((olds' ++ news').toArray ++ Builtin.zeroCells z.cells (nc - (l + n))).toList.take (olds ++ news).length) = olds' ++ news' := by
          rw [Array.toList_append, List.take_append_of_le_length (by simp; omega), List.take_of_length_le (by simp; omega)]
        rw [e1]
        exact ho.append hn)
    exact this.of_next _
  · exact F.new _ _
  · have s1 := Step.drew G h w
    have s2 := Step.new (G := G) (h := h) (w := w.drew) (id := h.next) (F.free _ (Nat.le_refl _)).1 (F.free _ (Nat.le_refl _)).2 { cells := olds ++ news, esz := i.size } ((olds' ++ news').toArray ++ Builtin.zeroCells z.cells (nc - (l + n))) e nc (h.next + 1) (by omega)
    exact s1.trans s2

theorem append_sound {P : Program} {h h' : Heap} {G : Gh} {w : World} (H : HRel G h w) (F : Fresh G h) {t tx ty e e' : TypeId} {i : TypeInfo} {z : Value} (ht : P.underlying t = some (.slice e)) (htx : P.underlying tx = some (.slice e')) (hi : P.info? e = some i) (hz : i.zero = some z)
    (hzs : z.cells.toList.length = i.size) {s s' x x' v : Value} (hs : VRel G s s') (hx : VRel G x x') (hv : appendA h i.size i.bytes s x = some (v, h')) :
    ∃ v' w' G', (Builtin.append_ #[t, tx] ty #[s', x']).run P w = .ok v' w' ∧ VRel G' v v' ∧ HRel G' h' w' ∧ Fresh G' h' ∧ Step G h w G' h' w' := by
  unfold appendA at hv
  split at hv
  · cases hv
  · rename_i n hn
    split at hv
    · rename_i h0; subst h0
      obtain ⟨news', _, hsrc⟩ := src_rel (P := P) (esz := i.size) htx H hx hn (by simp [srcA]) (news := []) rfl
      have hnw : news' = [] := by
        have := hsrc.newsLen; simp at this; exact this
      subst hnw
      have key : ∀ base l cap, l ≤ cap → (Builtin.append_ #[t, tx] ty #[.slice base l cap, x']).run P w = .ok (.slice base l cap) w := fun base l cap hle => run_append_nothing (P := P) w t tx ty e i ht hi base l cap hle x' hsrc
      cases hs <;> simp only [reduceCtorEq] at hv
      case nilslice => simp only [Option.some.injEq, Prod.mk.injEq] at hv; obtain ⟨rfl, rfl⟩ := hv; exact ⟨_, w, G, key _ _ _ (Nat.le_refl _), .nilslice, H, F, .refl _ _ _⟩
      case slice o l m h =>
        split at hv
        · rename_i hle
          simp only [Option.some.injEq, Prod.mk.injEq] at hv; obtain ⟨rfl, rfl⟩ := hv; exact ⟨_, w, G, key _ _ _ hle, .slice _ _ _ h, H, F, .refl _ _ _⟩
        · cases hv
      case grown h hl => simp only [Option.some.injEq, Prod.mk.injEq] at hv; obtain ⟨rfl, rfl⟩ := hv; exact ⟨_, w, G, key _ _ _ hl, .grown _ h hl, H, F, .refl _ _ _⟩
      case part h hl => simp only [Option.some.injEq, Prod.mk.injEq] at hv; obtain ⟨rfl, rfl⟩ := hv; exact ⟨_, w, G, key _ _ _ hl, .part _ _ _ h hl, H, F, .refl _ _ _⟩
      case empty a m => simp only [Option.some.injEq, Prod.mk.injEq] at hv; obtain ⟨rfl, rfl⟩ := hv; exact ⟨_, w, G, key _ _ _ (Nat.zero_le _), .empty _ _, H, F, .refl _ _ _⟩
    · rename_i h0
      split at hv
      · cases hv
      · rename_i news hnews
        split at hv
        · rename_i h1
          obtain ⟨news', hnr, hsrc⟩ := src_rel (P := P) htx H hx hn hnews h1
          have hnl := hsrc.newsLen
          have hnl' := hnr.length
          cases hs <;> simp only [reduceCtorEq] at hv
          case nilslice =>
            split at hv
            · rename_i hc; obtain ⟨c1, c2, c3⟩ := hc
              simp only [Option.some.injEq] at hv
              have := grow_sound (P := P) H F (tx := tx) (ty := ty) ht hi hz hzs (base := none) (l := 0) (cap := 0) (olds := []) (olds' := []) (by simp [Builtin.firstCells]) .nil (by simp) hsrc hnr (by omega) (by simpa using c1) (by simpa using c2) c3
              simp only [List.nil_append, Nat.zero_add, hv] at this
              exact this
            · cases hv
          case slice b c k o l m hG =>
            split at hv
            · rename_i hroom
              split at hv
              · rename_i h2 hw
                simp only [Option.some.injEq, Prod.mk.injEq] at hv; obtain ⟨rfl, rfl⟩ := hv
                obtain ⟨c', k', e1, w', e2, e3, e4, e5⟩ := Heap.write_sound (P := P) hw H F hnr
                rw [hG] at e1; simp only [Option.some.injEq, Prod.mk.injEq] at e1; obtain ⟨rfl, rfl⟩ := e1
                exact ⟨_, w', G, run_append_put ht hi hsrc hroom e2, .slice _ _ _ hG, e3, e4, e5⟩
              · cases hv
            · rename_i hroom
              split at hv
              · rename_i olds holds
                split at hv
                · rename_i hc; obtain ⟨c1, c2, c3⟩ := hc
                  simp only [Option.some.injEq] at hv
                  have hx2 : VRel G (.slice (some ⟨b, o, none⟩) l m) (.slice (some ⟨c, o, none⟩) l m) := .slice _ _ _ hG
                  have hsrcA : srcA h i.size (.slice (some ⟨b, o, none⟩) l m) l = some olds := by unfold srcA; exact holds
                  obtain ⟨olds', f1, f2, f3⟩ := first_rel (P := P) H hx2 rfl (Nat.le_refl _) hsrcA
                  have := grow_sound (P := P) H F (tx := tx) (ty := ty) ht hi hz hzs (f3 w.drew rfl) f1 f2 hsrc hnr (by omega) c1 c2 c3
                  rw [hv] at this
                  exact this
                · cases hv
              · cases hv
          case grown b c k l hG hl =>
            split at hv
            · rename_i o hg
              split at hv
              · rename_i hc; obtain ⟨c1, c2, c3, c4, c5, c6, c7⟩ := hc
                simp only [Option.some.injEq] at hv
                obtain ⟨c', k', C, T, e1, e2, e3, e4, e5, e6⟩ := H.own b o c1 hg
                rw [hG] at e1; simp only [Option.some.injEq, Prod.mk.injEq] at e1; obtain ⟨rfl, rfl⟩ := e1
                have hCs := e4 (by rw [c2]; exact c3)
                rw [c2] at hCs
                by_cases hroom : l + n ≤ k
                · have hsl : l * i.size + news'.length ≤ C.size := by
                    rw [hnl, hCs, ← Nat.add_mul]; exact Nat.mul_le_mul_right _ hroom
                  have hst := run_storeCells_at P c (l * i.size) T news' 0 C w e3 (by simpa using hsl) (hsrc.one)
                  simp only [Nat.add_zero] at hst
                  have hap := run_append_put (ty := ty) ht hi hsrc (b := c) (off := 0) hroom (w' := w.setRow c (C.toList.take (l * i.size) ++ news' ++ C.toList.drop (l * i.size + news'.length)).toArray) (by simpa using hst)
                  have hR := H.regrow (id := h.next) c1 hg F.le (F.free _ (Nat.le_refl _)).1 hG e3 c4 hnr hsl
                  have hS := Step.regrow H c1 hg (id := h.next) (F.free _ (Nat.le_refl _)).1 hG { cells := o.cells.take (l * i.size) ++ news, esz := o.esz } (C.toList.take (l * i.size) ++ news' ++ C.toList.drop (l * i.size + news'.length)).toArray (h.next + 1) (by omega)
                  have hh : h' = { (h.kill b).put h.next { cells := o.cells.take (l * i.size) ++ news, esz := o.esz } with next := h.next + 1 } := by
                    have := (Prod.mk.inj hv).2
                    rw [← this, c2]; rfl
                  have hvv : v = .slice (some ⟨h.next, 0, some 0⟩) (l + n) 0 := (Prod.mk.inj hv).1.symm
                  refine ⟨_, _, G.set h.next (c, k), hap, by rw [hvv]; exact .grown _ (by simp [Gh.set]) hroom, by rw [hh]; exact hR.of_next _, ?_, by rw [hh]; exact hS⟩
                  rw [hh]
                  refine ⟨by have := F.le; show h.base ≤ h.next + 1; omega, fun x hx => ?_⟩
                  have hx' : h.next + 1 ≤ x := hx
                  have := F.free x (by omega)
                  simp only [Gh.set, Heap.put, Heap.kill]
                  rw [if_neg (by omega), if_neg (by omega)]
                  refine ⟨this.1, ?_⟩
                  split
                  · rfl
                  · exact this.2
                · have hread : VRels G (o.cells.take (l * i.size)) ((C.toList.take o.cells.length).take (l * i.size)) := e6.take _
                  have hoc : (o.cells.take (l * i.size)).length = l * i.size := by rw [List.length_take]; omega
                  have hold : (Builtin.firstCells i.size l (.slice (some ⟨c, 0, none⟩) l k)).run P w.drew = .ok ((C.toList.take o.cells.length).take (l * i.size)).toArray w.drew := by
                    have hlen := hread.length
                    have := run_loadCells_list (P := P) (w := w.drew) ⟨c, 0, none⟩ ((C.toList.take o.cells.length).take (l * i.size)) (fun j u hj => by
                      rw [Addr.add_eq]
                      simp [List.getElem?_take] at hj
                      have : w.cell? ⟨c, 0 + j, none⟩ = C[0 + j]? := cell?_of e3 _
                      rw [World.cell?_drew, this, Nat.zero_add]
                      exact hj.2.2)
                    rw [hlen, hoc] at this
                    simpa [Builtin.firstCells] using this
                  have := grow_sound (P := P) (H.kill b) (h := h.kill b) ⟨F.le, fun x hx => ⟨(F.free x hx).1, by
                    simp only [Heap.kill]; split
                    · rfl
                    · exact (F.free x hx).2⟩⟩ (tx := tx) (ty := ty) ht hi hz hzs hold hread hoc hsrc hnr (by omega) c5 c6 c3
                  rw [hv] at this
                  obtain ⟨v', w', G', g1, g2, g3, g4, g5⟩ := this
                  exact ⟨v', w', G', g1, g2, g3, g4, (Step.kill G h w b).trans g5⟩
              · cases hv
            · cases hv
        · cases hv

theorem eop_sound {P : Program} {o : Oper} {p : EOp} (hc : cE P o.op = some p) {G : Gh} {ρ : Nat → Value} {a : Act} (E : ∀ x, x ∈ o.op.operands → VRel G (ev ρ x) (a.eval x)) {h h' : Heap} {w : World} (H : HRel G h w) (F : Fresh G h)
    {v : Value} (hv : eop p ρ h = some (v, h')) :
    ∃ v' w' G', Does P o a w v' w' ∧ VRel G' v v' ∧ HRel G' h' w' ∧ Fresh G' h' ∧ Step G h w G' h' w' := by
  obtain ⟨dst, op, type, pos, after, guard⟩ := o
  simp only at hc E
  unfold Does execOp
  simp only
  cases op <;> simp only [cE, reduceCtorEq] at hc
  case store t x y =>
    cases hs : szOf P t with
    | none => simp [hs] at hc
    | some n =>
      simp only [hs, Option.map_some, Option.some.injEq] at hc; subst hc
      have e1 := E x (by simp [Op.operands]); have e2 := (E y (by simp [Op.operands])).cells
      simp only [eop] at hv
      generalize ev ρ x = u at *
      generalize hu : a.eval x = u' at e1
      cases e1 <;> simp only [reduceCtorEq] at hv
      rename_i b c k off hG
      split at hv
      · rename_i hlen
        split at hv
        · rename_i h2 hw
          simp only [Option.some.injEq, Prod.mk.injEq] at hv; obtain ⟨rfl, rfl⟩ := hv
          obtain ⟨c', k', e3, w', e4, e5, e6, e7⟩ := Heap.write_sound (P := P) hw H F e2
          rw [hG] at e3; simp only [Option.some.injEq, Prod.mk.injEq] at e3; obtain ⟨rfl, rfl⟩ := e3
          refine ⟨undef, w', G, .inr ⟨?_, rfl⟩, .tuple (c := []) (c' := []) .nil, e5, e6, e7⟩
          have hsz : (a.eval y).cells.size = n := by have := e2.length; rw [hlen] at this; simpa using this
          simp [Instr.storeAt, Instr.sureAddr, hu, storeVar, szOf_run hs, hsz, e4]
        · cases hv
      · cases hv
  case call c =>
    obtain ⟨callee, args, argTypes⟩ := c
    cases callee with
    | value f => simp only [reduceCtorEq] at hc
    | invoke r m => simp only [reduceCtorEq] at hc
    | builtin b =>
      have two : ∀ x y, args.toList = [x, y] → args = #[x, y] := fun x y h => by rw [← h]
      have get0 : ∀ t, argTypes[0]? = some t → argTypes.toList[0]? = some t := fun t h => by simpa using h
      cases b <;> simp only [reduceCtorEq] at hc
      case append =>
        split at hc
        · rename_i s x t t2 hx ht0 ht1
          have hargs := two s x hx
          subst hargs
          split at hc
          · rename_i e e' ht htx
            split at hc
            · rename_i i z hi hz
              split at hc
              · rename_i hzl
                simp only [Option.some.injEq] at hc; subst hc
                obtain ⟨i', zv, hi', hiz, hzv, hzr⟩ := zeroOf_run hz
                rw [hi] at hi'; simp only [Option.some.injEq] at hi'; subst hi'
                simp only [eop] at hv
                obtain ⟨v', w', G', g1, g2, g3, g4, g5⟩ := append_sound (P := P) (ty := type) H F ht htx hi hiz (by rw [hzv]; exact hzl) (E s (by simp [Op.operands, Call.operands])) (E x (by simp [Op.operands, Call.operands])) hv
                have g1' : (Builtin.append_ argTypes type #[a.eval s, a.eval x]).run P w = .ok v' w' := by
                  rw [← g1]
                  simp [Builtin.append_, ht0, ht1]
                exact ⟨v', w', G', .inl (by simp [resolve, invoke, builtin, g1']), g2, g3, g4, g5⟩
              · cases hc
            · cases hc
          · cases hc
        · cases hc
      case copy =>
        split at hc
        · rename_i d s t hx ht0
          have hargs := two d s hx
          subst hargs
          split at hc
          · rename_i e ht
            cases hs : szOf P e with
            | none => simp [hs] at hc
            | some n =>
              simp only [hs, Option.map_some, Option.some.injEq] at hc; subst hc
              have e1 := E d (by simp [Op.operands, Call.operands]); have e2 := E s (by simp [Op.operands, Call.operands])
              simp only [eop] at hv
              generalize ev ρ d = u at *
              generalize hu : a.eval d = u' at e1
              generalize ev ρ s = z at *
              generalize hz : a.eval s = z' at e2
              split at hv
              · rename_i ld ls hld hls
                have hlen := fun w => lenOf_rel (P := P) e2 hls w
                have hdst : ∃ base cap, u' = .slice base ld cap := by
                  cases e1 <;> simp only [lenA, Option.some.injEq, reduceCtorEq] at hld <;> subst hld <;> exact ⟨_, _, rfl⟩
                obtain ⟨base, cap, rfl⟩ := hdst
                split at hv
                · rename_i h0
                  simp only [Option.some.injEq, Prod.mk.injEq] at hv; obtain ⟨rfl, rfl⟩ := hv
                  obtain ⟨news', f1, f2, f3⟩ := first_rel (P := P) (esz := n) (n := 0) (news := []) H e2 hls (Nat.zero_le _) (by simp [srcA])
                  have : news' = [] := List.length_eq_zero_iff.1 (by rw [f1.length]; rfl)
                  subst this
                  refine ⟨.int .i64 0, w, G, .inl ?_, .int _ _, H, F, .refl _ _ _⟩
                  have f4 := f3 w rfl
                  cases base <;> simp [resolve, invoke, builtin, Builtin.copy_, ht0, run_underlying ht, hu, hz, hlen, h0, szOf_run hs, f4, storeCells, goInt]
                · rename_i h0
                  split at hv
                  · rename_i cs b off sp l2 c2 hcs
                    split at hv
                    · rename_i h2 hw
                      simp only [Option.some.injEq, Prod.mk.injEq] at hv; obtain ⟨rfl, rfl⟩ := hv
                      obtain ⟨news', f1, f2, f3⟩ := first_rel (P := P) H e2 hls (Nat.min_le_left _ _) hcs
                      obtain ⟨c', k', e3, w', e4, e5, e6, e7⟩ := Heap.write_sound (P := P) hw H F f1
                      have hb : base = some ⟨c', off, none⟩ := by
                        cases e1 with
                        | slice o l m hG => rw [hG] at e3; simp only [Option.some.injEq, Prod.mk.injEq] at e3; rw [e3.1]
                        | grown l hG hl => rw [hG] at e3; simp only [Option.some.injEq, Prod.mk.injEq] at e3; rw [e3.1]
                        | part o l m hG hl => rw [hG] at e3; simp only [Option.some.injEq, Prod.mk.injEq] at e3; rw [e3.1]
                        | empty a m => exact absurd (Nat.min_zero ls) h0
                      subst hb
                      refine ⟨_, w', G, .inl ?_, .int _ _, e5, e6, e7⟩
                      have f4 := f3 w rfl
                      simp [resolve, invoke, builtin, Builtin.copy_, ht0, run_underlying ht, hu, hz, hlen, szOf_run hs, f4, e4, goInt]
                    · cases hv
                  · cases hv
              · cases hv
          · cases hc
        · cases hc
      case clear =>
        split at hc
        · rename_i x t hx ht0
          have hargs : args = #[x] := by rw [← hx]
          subst hargs
          split at hc
          · rename_i e ht
            split at hc
            · rename_i n z hs hz
              split at hc
              · rename_i hcond
                obtain ⟨hzl, hzok⟩ := hcond
                simp only [Option.some.injEq] at hc; subst hc
                obtain ⟨i, zv, hi, hiz, hzv, hzr⟩ := zeroOf_run hz
                have e1 := E x (by simp [Op.operands, Call.operands])
                simp only [eop] at hv
                generalize ev ρ x = u at *
                generalize hu : a.eval x = u' at e1
                split at hv
                · rename_i l hl
                  have hdst : ∃ base cap, u' = .slice base l cap := by
                    cases e1 <;> simp only [lenA, Option.some.injEq, reduceCtorEq] at hl <;> subst hl <;> exact ⟨_, _, rfl⟩
                  obtain ⟨base, cap, rfl⟩ := hdst
                  split at hv
                  · rename_i h0; subst h0
                    simp only [Option.some.injEq, Prod.mk.injEq] at hv; obtain ⟨rfl, rfl⟩ := hv
                    refine ⟨.tuple #[], w, G, .inl ?_, .tuple (c := []) (c' := []) .nil, H, F, .refl _ _ _⟩
                    cases base <;> simp [resolve, invoke, builtin, Builtin.clear_, ht0, run_underlying ht, hu]
                  · rename_i h0
                    split at hv
                    · rename_i b off sp l2 c2
                      split at hv
                      · rename_i h2 hw
                        simp only [Option.some.injEq, Prod.mk.injEq] at hv; obtain ⟨rfl, rfl⟩ := hv
                        obtain ⟨c', k', e3, w', e4, e5, e6, e7⟩ := Heap.write_sound (P := P) hw H F (made_rels hzok _)
                        have hb : base = some ⟨c', off, none⟩ := by
                          cases e1 with
                          | slice o l m hG => rw [hG] at e3; simp only [Option.some.injEq, Prod.mk.injEq] at e3; rw [e3.1]
                          | grown l hG hl => rw [hG] at e3; simp only [Option.some.injEq, Prod.mk.injEq] at e3; rw [e3.1]
                          | part o l m hG hl => rw [hG] at e3; simp only [Option.some.injEq, Prod.mk.injEq] at e3; rw [e3.1]
                          | empty a m => simp only [lenA, Option.some.injEq] at hl; omega
                        subst hb
                        refine ⟨.tuple #[], w', G, .inl ?_, .tuple (c := []) (c' := []) .nil, e5, e6, e7⟩
                        have e8 : (Builtin.zeroCells zv.cells l).toList = made z (l * z.length) := by
                          subst hzv
                          simp [Builtin.zeroCells, made]
                          intro j hj
                          have : 0 < zv.cells.size := by
                            rcases Nat.eq_zero_or_pos zv.cells.size with h | h
                            · rw [h] at hj; simp at hj
                            · exact h
                          have hlt := Nat.mod_lt j this
                          simp [List.getD, hlt]
                        obtain ⟨l', rfl⟩ : ∃ m, l = m + 1 := ⟨l - 1, by omega⟩
                        simp [resolve, invoke, builtin, Builtin.clear_, ht0, run_underlying ht, hu, hzr, e8, e4]
                      · cases hv
                    · cases hv
                · cases hv
              · cases hc
            · cases hc
          · cases hc
        · cases hc

end Go.AM
