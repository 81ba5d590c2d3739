/- The abstract machine, part 17: words for walks. -/
import Derived.Test.YtkhhdemhlbaboaaAM14
set_option linter.unusedVariables false
set_option linter.unusedSimpArgs false
namespace Go.AM

/-! ### Slots that a piece of code does not write keep their values -/
def wrOps (l : List AOper) : List Nat := l.filterMap (·.dst)
def wr : ACode → List Nat
  | .region ops => wrOps ops
  | .seq a b => wr a ++ wr b
  | .cond _ a b => wr a ++ wr b
  | .block _ a => wr a
  | .loop a => wr a
  | _ => []

def Kept (W : List Nat) (ρ0 : Nat → Value) (Q : Post) : Post := fun e ρ h => Q e ρ h ∧ ∀ t, t ∉ W → ρ t = ρ0 t

theorem wpOps_keep {C : CallP} (hM : CallMono C) : ∀ (l : List AOper) {Q : Post} {ρ : Nat → Value} {h : Heap}, wpOps C l Q ρ h → wpOps C l (Kept (wrOps l) ρ Q) ρ h
  | [], Q, ρ, h, hw => ⟨hw, fun _ _ => rfl⟩
  | o :: r, Q, ρ, h, hw => by
    unfold wpOps at *
    have key : ∀ v ρ' h', Kept (wrOps r) (put ρ o.dst v) Q .normal ρ' h' → Kept (wrOps (o :: r)) ρ Q .normal ρ' h' := by
      intro v ρ' h' ⟨h1, h2⟩
      refine ⟨h1, fun t ht => ?_⟩
      cases hd : o.dst with
      | none =>
        rw [hd] at h2
        exact h2 t (fun hm => ht (by simp [wrOps, hd] at hm ⊢; exact hm))
      | some d =>
        rw [hd] at h2
        have h3 : t ∉ wrOps r := fun hm => ht (by simp [wrOps, hd] at hm ⊢; exact .inr hm)
        have h4 : t ≠ d := fun e => ht (by simp [wrOps, hd, e])
        rw [h2 t h3]
        simp only [put]
        rw [if_neg h4]
    have key2 : ∀ v e ρ' h', Kept (wrOps r) (put ρ o.dst v) Q e ρ' h' → Kept (wrOps (o :: r)) ρ Q e ρ' h' := by
      intro v e ρ' h' ⟨h1, h2⟩
      refine ⟨h1, fun t ht => ?_⟩
      cases hd : o.dst with
      | none =>
        rw [hd] at h2
        exact h2 t (fun hm => ht (by simp [wrOps, hd] at hm ⊢; exact hm))
      | some d =>
        rw [hd] at h2
        have h3 : t ∉ wrOps r := fun hm => ht (by simp [wrOps, hd] at hm ⊢; exact .inr hm)
        have h4 : t ≠ d := fun e => ht (by simp [wrOps, hd, e])
        rw [h2 t h3]
        simp only [put]
        rw [if_neg h4]
    split
    · rename_i hg; rw [if_pos hg] at hw
      exact wpOp_mono hM (fun v h' hh => wpOps_mono hM r (fun e ρ' h' => key2 v e ρ' h') (wpOps_keep hM r hh)) hw
    · rename_i hg; rw [if_neg hg] at hw
      exact wpOps_mono hM r (fun e ρ' h' => key2 undef e ρ' h') (wpOps_keep hM r hw)

theorem Kept.imp {W W' : List Nat} {ρ0 ρ1 : Nat → Value} {Q : Post} {e : AExit} {ρ : Nat → Value} {h : Heap} (k : Kept W ρ1 Q e ρ h) (hw : ∀ t, t ∉ W' → t ∉ W ∧ ρ1 t = ρ0 t) : Kept W' ρ0 Q e ρ h :=
  ⟨k.1, fun t ht => by rw [k.2 t (hw t ht).1, (hw t ht).2]⟩

theorem wpC_keep {C : CallP} (hM : CallMono C) : ∀ (c : ACode) {Q : Post} {ρ : Nat → Value} {h : Heap}, wpC C c Q ρ h → wpC C c (Kept (wr c) ρ Q) ρ h
  | .skip, Q, ρ, h, hw => ⟨hw, fun _ _ => rfl⟩
  | .exit i, Q, ρ, h, hw => ⟨hw, fun _ _ => rfl⟩
  | .ret, Q, ρ, h, hw => ⟨hw, fun _ _ => rfl⟩
  | .region ops, Q, ρ, h, hw => wpOps_keep hM ops hw
  | .seq a b, Q, ρ, h, hw => by
    refine wpC_mono hM a (fun e ρ1 h1 k => ?_) ρ h (wpC_keep hM a (Q := seqP (wpC C b Q) Q) hw)
    have w1 : ∀ t, t ∉ wr (.seq a b) → t ∉ wr a ∧ t ∉ wr b := fun t ht => by simpa [wr] using ht
    cases e with
    | normal =>
      refine wpC_mono hM b (fun e2 ρ2 h2 k2 => k2.imp (fun t ht => ⟨(w1 t ht).2, k.2 t (w1 t ht).1⟩)) ρ1 h1 (wpC_keep hM b k.1)
    | exit i => exact ⟨k.1, fun t ht => k.2 t (w1 t ht).1⟩
    | ret => exact ⟨k.1, fun t ht => k.2 t (w1 t ht).1⟩
  | .cond c a b, Q, ρ, h, hw => by
    have w1 : ∀ t, t ∉ wr (.cond c a b) → t ∉ wr a ∧ t ∉ wr b := fun t ht => by simpa [wr] using ht
    unfold wpC at *
    split
    · rename_i t e
      simp only [e] at hw
      split
      · rename_i ht; rw [if_pos ht] at hw
        exact wpC_mono hM a (fun e2 ρ2 h2 k2 => k2.imp (fun t ht => ⟨(w1 t ht).1, rfl⟩)) ρ h (wpC_keep hM a hw)
      · rename_i ht; rw [if_neg ht] at hw
        exact wpC_mono hM b (fun e2 ρ2 h2 k2 => k2.imp (fun t ht => ⟨(w1 t ht).2, rfl⟩)) ρ h (wpC_keep hM b hw)
    · rename_i e
      split at hw
      · rename_i t e'; exact absurd e' (e t)
      · exact hw
  | .block id a, Q, ρ, h, hw => by
    refine wpC_mono hM a (fun e ρ1 h1 k => ?_) ρ h (wpC_keep hM a (Q := blockP id Q) hw)
    cases e with
    | normal => exact k
    | ret => exact k
    | exit i =>
      obtain ⟨k1, k2⟩ := k
      simp only [blockP] at k1 ⊢
      split <;> rename_i hi <;> simp only [hi, if_true, if_false] at k1 <;> exact ⟨k1, k2⟩
  | .loop a, Q, ρ, h, ⟨n, hw⟩ => by
    refine ⟨n, ?_⟩
    have key : ∀ n ρ h, loopN (wpC C a) n Q ρ h → loopN (wpC C a) n (Kept (wr a) ρ Q) ρ h := by
      intro n
      induction n with
      | zero => intro ρ h hw; exact hw
      | succ n ih =>
        intro ρ h hw
        refine wpC_mono hM a (fun e ρ1 h1 k => ?_) ρ h (wpC_keep hM a (Q := seqP (loopN (wpC C a) n Q) Q) hw)
        cases e with
        | normal =>
          exact loopN_mono (fun Q Q' hq => wpC_mono hM a hq) n (fun e2 ρ2 h2 k2 => k2.imp (fun t ht => ⟨ht, k.2 t ht⟩)) ρ1 h1 (ih ρ1 h1 k.1)
        | exit i => exact k
        | ret => exact k
    exact key n ρ h hw

/-- **A loop**, with the slots that it does not write. -/
theorem wp_loopK {C : CallP} (hM : CallMono C) {c : ACode} {Q : Post} {ρ0 : Nat → Value} (I : Nat → (Nat → Value) → Heap → Prop) (step : ∀ m ρ h, I m ρ h → (∀ t, t ∉ wr c → ρ t = ρ0 t) → wpC C c (seqP (fun ρ' h' => ∃ m', m' < m ∧ I m' ρ' h') Q) ρ h) {m : Nat} {h : Heap} (h0 : I m ρ0 h) : wpC C (.loop c) Q ρ0 h := by
  refine wp_loop hM (fun m ρ h => I m ρ h ∧ ∀ t, t ∉ wr c → ρ t = ρ0 t) ?_ (m := m) ⟨h0, fun _ _ => rfl⟩
  intro m ρ h ⟨hI, hk⟩
  refine wpC_mono hM c (fun e ρ1 h1 k => ?_) ρ h (wpC_keep hM c (step m ρ h hI hk))
  cases e with
  | normal =>
    obtain ⟨⟨m', hm', hI'⟩, k2⟩ := k
    exact ⟨m', hm', hI', fun t ht => (k2 t ht).trans (hk t ht)⟩
  | exit i => exact k.1
  | ret => exact k.1

/-! ### Memory that was only added to -/
def More (h h' : Heap) : Prop := Ext h h' ∧ Ok h'
theorem More.refl {h : Heap} (k : Ok h) : More h h := ⟨.refl h, k⟩
theorem More.trans {a b c : Heap} (x : More a b) (y : More b c) : More a c := ⟨x.1.trans y.1, y.2⟩
theorem More.alloc {h : Heap} (k : Ok h) (o : Blk) : More h (h.alloc o) := ⟨.alloc h o, k.alloc o⟩
theorem Call.more {T : FuncId → Option AFn} {f args h} (k : Ok h) {R : Value → Heap → Prop} (hw : Call T f args h (fun v h' => R v h' ∧ Ext h h')) : Call T f args h (fun v h' => R v h' ∧ More h h') :=
  (Call.grows hw).imp fun v h' ⟨⟨a, b⟩, g⟩ => ⟨a, b, k.grows g⟩

theorem getD_in {α : Type} {l : List α} {i : Nat} (hi : i < l.length) (d : α) : l.getD i d = l[i] := by
  rw [List.getD_eq_getElem?_getD, List.getElem?_eq_getElem hi]; rfl
theorem tmod_nat {a b : Nat} : Int.tmod (a : Int) (b : Int) = ((a % b : Nat) : Int) := by
  rw [Int.tmod_eq_emod_of_nonneg (by omega)]; rfl
theorem tdiv_nat {a b : Nat} : Int.tdiv (a : Int) (b : Int) = ((a / b : Nat) : Int) := by
  rw [Int.tdiv_eq_ediv_of_nonneg (by omega)]; rfl

/-- Pairs. -/
def pairCells (p : Int × Int) : List Value := [.int .i64 p.1, .int .i64 p.2]
def Pairs (h : Heap) (v : Value) (js : List (Int × Int)) : Prop := Reads h v js.length 2 (js.flatMap pairCells)
theorem Pairs.ext {h h' : Heap} (x : Ext h h') (k : Ok h) {v : Value} {js : List (Int × Int)} (r : Pairs h v js) : Pairs h' v js := Reads.ext x k r

/-- A row of equal lengths, cell by cell. -/
theorem flatMap_drop {α : Type} {enc : α → List Value} {sz : Nat} (he : ∀ a, (enc a).length = sz) : ∀ (l : List α) (i : Nat) (hi : i < l.length), ((l.flatMap enc).drop (i * sz)).take sz = enc l[i]
  | [], i, hi => by simp at hi
  | a :: l, 0, hi => by
    simp only [List.flatMap_cons, Nat.zero_mul, List.drop_zero, List.getElem_cons_zero]
    rw [← he a, List.take_left]
  | a :: l, i + 1, hi => by
    have : (i + 1) * sz = (enc a).length + i * sz := by rw [he, Nat.succ_mul]; omega
    rw [List.flatMap_cons, this, ← List.drop_drop, List.drop_left]
    exact flatMap_drop he l i (by simpa using hi)
theorem flatMap_length {α : Type} {enc : α → List Value} {sz : Nat} (he : ∀ a, (enc a).length = sz) (l : List α) : (l.flatMap enc).length = l.length * sz := by
  induction l with
  | nil => simp
  | cons a l ih => rw [List.flatMap_cons, List.length_append, ih, he, List.length_cons, Nat.succ_mul]; omega

/-- An element of a slice of structs. -/
theorem Reads.elemN {α : Type} {enc : α → List Value} {sz : Nat} (he : ∀ a, (enc a).length = sz) {h : Heap} {v : Value} {l : List α} (r : Reads h v l.length sz (l.flatMap enc)) {i : Nat} (hi : i < l.length) :
    ∃ p, iaddrA sz v (.int .i64 i) = some p ∧ loadA h sz true p = some (.agg (enc l[i]).toArray) ∧ rdA h p sz = some (enc l[i]) := by
  obtain ⟨b, o, m, cap, rfl, hr⟩ := r.elem hi
  rw [flatMap_drop he l i hi] at hr
  refine ⟨.pointer (some ⟨b, o + i * sz, none⟩), by simp [iaddrA, hi], by simp [loadA, hr, whole], by simp [rdA, hr]⟩
/-- An element of one cell. -/
theorem Reads.elem1 {h : Heap} {v : Value} {cs : List Value} {n : Nat} (r : Reads h v n 1 cs) {i : Nat} (hi : i < n) :
    ∃ p, iaddrA 1 v (.int .i64 i) = some p ∧ loadA h 1 false p = some (cs.getD i undef) := by
  obtain ⟨b, o, m, cap, rfl, hr⟩ := r.elem hi
  have hl : i < cs.length := by rw [r.size]; omega
  refine ⟨.pointer (some ⟨b, o + i * 1, none⟩), by simp [iaddrA, hi], loadA_one ?_⟩
  rw [hr, Nat.mul_one, List.drop_eq_getElem_cons hl, getD_in hl]; rfl

/-- A field of an element. -/
theorem rd_field {h : Heap} {b o n : Nat} {cs : List Value} (hr : rdA h (.pointer (some ⟨b, o, none⟩)) n = some cs) {j : Nat} (hj : j < n) : loadA h 1 false (.pointer (some ⟨b, o + j, none⟩)) = some (cs.getD j undef) := by
  have hr' : h.read b o n = some cs := hr
  have hl := read_length hr'
  refine loadA_one ?_
  rw [read_sub hr' (by omega : j + 1 ≤ n), List.drop_eq_getElem_cons (by omega), getD_in (by omega)]; rfl

/-- What else is read stays as it is. -/
theorem Reads.keep {h h' : Heap} {v : Value} {n esz : Nat} {cs : List Value} (r : Reads h v n esz cs) (hb : h'.base = h.base) (hg : ∀ i, InBlk v i → h'.get i = h.get i) : Reads h' v n esz cs :=
  ⟨r.len, r.small, r.size, fun hn => by
    obtain ⟨c, o, m, cap, e, hr⟩ := r.at_ hn
    refine ⟨c, o, m, cap, e, ?_⟩
    rw [← hr]
    unfold Heap.read Heap.cells
    rw [hg c ⟨o, m, n, cap, e, hn⟩, hb]⟩
/-- A block that a slice reads from is there. -/
theorem Reads.blk {h : Heap} (k : Ok h) {v : Value} {n esz : Nat} {cs : List Value} (r : Reads h v n esz cs) (hz : esz ≠ 0) {i : Nat} (hi : InBlk v i) : i < h.next := by
  obtain ⟨o, m, n', c, rfl, hn⟩ := hi
  have hl := r.len
  simp only [lenA, Option.some.injEq] at hl
  subst hl
  obtain ⟨c', o', m', cap, e, hr⟩ := r.at_ hn
  simp only [Value.slice.injEq, Option.some.injEq, Addr.mk.injEq] at e
  obtain ⟨⟨rfl, rfl, rfl⟩, _, rfl⟩ := e
  unfold Heap.read Heap.cells at hr
  cases hg : h.get i with
  | none => simp [hg] at hr
  | some blk => exact k.lt hg

/-- Memory in which blocks were added, and perhaps one was given up. -/
structure Over (h h' : Heap) (P : Nat → Prop) : Prop where
  base : h'.base = h.base
  next : h.next ≤ h'.next
  get : ∀ i, i < h.next → ¬ P i → h'.get i = h.get i
theorem Over.ext {h h' : Heap} {P : Nat → Prop} (o : Over h h' P) {h0 : Heap} (x : Ext h0 h) (hp : ∀ i, P i → h0.next ≤ i) : Ext h0 h' :=
  ⟨o.base.trans x.base, Nat.le_trans x.next o.next, fun i hi => by rw [o.get i (Nat.lt_of_lt_of_le hi x.next) (fun p => by have := hp i p; omega)]; exact x.get i hi⟩
theorem Own.blk {h0 h : Heap} {v : Value} {n esz : Nat} {cs : List Value} (r : Own h0 h v n esz cs) {i : Nat} (hi : InBlk v i) : h0.next ≤ i := by
  obtain ⟨o, m, n', c, e, hn⟩ := hi
  rcases r.at_ with ⟨rfl | ⟨b, rfl⟩, rfl⟩ | ⟨b, e2, ⟨rfl, _⟩ | ⟨rfl, _⟩, hg, h1, _⟩
  · simp at e
  · simp only [Value.slice.injEq] at e; omega
  · simp only [Value.slice.injEq, Option.some.injEq, Addr.mk.injEq] at e; omega
  · simp only [Value.slice.injEq, Option.some.injEq, Addr.mk.injEq] at e; omega

/-- The block of a grown row. -/
def GBlk (v : Value) (i : Nat) : Prop := ∃ n, v = .slice (some ⟨i, 0, some 0⟩) n 0
theorem Own.gblk {h0 h : Heap} {v : Value} {n esz : Nat} {cs : List Value} (r : Own h0 h v n esz cs) {i : Nat} (hi : GBlk v i) : h0.next ≤ i := by
  obtain ⟨n', e⟩ := hi
  rcases r.at_ with ⟨rfl | ⟨b, rfl⟩, rfl⟩ | ⟨b, e2, ⟨rfl, _⟩ | ⟨rfl, _⟩, hg, h1, _⟩
  · simp at e
  · simp at e
  · simp only [Value.slice.injEq, Option.some.injEq, Addr.mk.injEq] at e; omega
  · simp at e

/-- An append of something: the new row is younger than all that is. -/
theorem Own.append2 {h0 h : Heap} (k : Ok h) {s x : Value} {n m esz bytes : Nat} {cs news : List Value} (r : Own h0 h s n esz cs) (rx : Reads h x m esz news) (h1 : news.all (·.oneCell') = true) (hsz : esz ≠ 0) (hb : (n + m) * bytes ≤ 70368744177664) (hn : n + m ≤ 4611686018427387904) (hm : m ≠ 0) :
    ∃ v' h', appendA h esz bytes s x = some (v', h') ∧ Own h h' v' (n + m) esz (cs ++ news) ∧ Ok h' ∧ Over h h' (GBlk s) := by
  unfold appendA
  rw [rx.len]
  simp only
  rw [if_neg hm]
  obtain ⟨bx, ox, mx, cx, rfl, hr⟩ := rx.at_ hm
  have hsrc : srcA h esz (.slice (some ⟨bx, ox, mx⟩) m cx) m = some news := by
    unfold srcA; rw [if_neg hm]; exact hr
  rw [hsrc]
  simp only [h1, if_true]
  have hall : (cs ++ news).all (·.oneCell') = true := by rw [List.all_append, r.ones, h1]; rfl
  have hlen : (cs ++ news).length = (n + m) * esz := by rw [List.length_append, r.size, rx.size, Nat.add_mul]
  have made : Own h (h.alloc { cells := cs ++ news, esz := esz }) (.slice (some ⟨h.next, 0, some 0⟩) (n + m) 0) (n + m) esz (cs ++ news) :=
    ⟨by omega, hlen, hall, .inr ⟨h.next, esz, .inl ⟨rfl, rfl⟩, by simp [Heap.alloc], Nat.le_refl _, k.le⟩⟩
  have over : ∀ P, Over h (h.alloc { cells := cs ++ news, esz := esz }) P := fun P => ⟨rfl, by simp [Heap.alloc], fun i hi _ => by simp only [Heap.alloc]; rw [if_neg (by omega)]⟩
  rcases r.at_ with ⟨rfl | ⟨b0, rfl⟩, rfl⟩ | ⟨b, e, ⟨rfl, rfl⟩ | ⟨rfl, rfl⟩, hg, hb0, hbb⟩
  · have hcs : cs = [] := List.length_eq_zero_iff.1 (by rw [r.size]; simp)
    subst hcs
    simp only [Nat.zero_add, List.nil_append] at hb hn made over
    simp only
    rw [if_pos ⟨hb, hn, hsz⟩]
    exact ⟨_, _, rfl, by simpa [growA] using made, k.alloc _, over _⟩
  · have hcs : cs = [] := List.length_eq_zero_iff.1 (by rw [r.size]; simp)
    subst hcs
    simp only [Nat.zero_add, List.nil_append] at hb hn made over
    simp only
    rw [if_neg (by omega)]
    simp only [if_true, List.nil_append, Nat.zero_add]
    rw [if_pos ⟨hb, hn, hsz⟩]
    exact ⟨_, _, rfl, by simpa [growA] using made, k.alloc _, over _⟩
  · simp only [hg]
    have ht : cs.take (n * e) = cs := by rw [← r.size]; exact List.take_length
    rw [if_pos ⟨hbb, trivial, hsz, by rw [r.size]; exact Nat.le_refl _, hb, hn, by rw [ht]; exact r.ones⟩, ht]
    refine ⟨_, _, rfl, ⟨by omega, hlen, hall, .inr ⟨h.next, e, .inl ⟨rfl, rfl⟩, by simp [Heap.alloc, Heap.kill], Nat.le_refl _, k.le⟩⟩, (k.kill b).alloc _, ⟨rfl, by simp [Heap.alloc, Heap.kill], fun i hi hp => ?_⟩⟩
    have e1 : ((h.kill b).alloc { cells := cs ++ news, esz := e }).get i = if i = h.next then some { cells := cs ++ news, esz := e } else if i = b then none else h.get i := rfl
    rw [e1, if_neg (by omega), if_neg (fun e => hp ⟨_, by rw [e]⟩)]
  · simp only
    rw [if_neg (by omega)]
    have hrd : (if n = 0 then some [] else h.read b 0 (n * esz)) = some cs := by
      by_cases h0n : n = 0
      · subst h0n
        have hcs : cs = [] := List.length_eq_zero_iff.1 (by rw [r.size]; simp)
        simp [hcs]
      · rw [if_neg h0n, read_own hbb hg (by rw [r.size]; simp)]
        simp only [List.drop_zero]
        rw [← r.size, List.take_length]
    rw [hrd]
    simp only
    rw [if_pos ⟨hb, hn, hsz⟩]
    exact ⟨_, _, rfl, made, k.alloc _, over _⟩

/-- The shape of an element's address. -/
theorem iaddr_ptr {sz : Nat} {v : Value} {i : Int} {p : Value} (h : iaddrA sz v (.int .i64 i) = some p) : ∃ b o, p = .pointer (some ⟨b, o, none⟩) := by
  unfold iaddrA at h
  split at h
  · split at h
    · rename_i b o _ l _ k n heq _
      simp only [Option.some.injEq] at h; exact ⟨_, _, h.symm⟩
    · cases h
  · cases h

theorem Mat.row {h : Heap} {v : Value} {rows : List (List Int)} (r : Mat h v rows) {i : Nat} (hi : i < rows.length) :
    ∃ p u, iaddrA 1 v (.int .i64 i) = some p ∧ loadA h 1 false p = some u ∧ Ints h u rows[i] ∧ Fit u := by
  obtain ⟨b, o, m, cap, u, rfl, hr, hu⟩ := r.elem hi
  rw [getD_in hi] at hu
  exact ⟨.pointer (some ⟨b, o + i * 1, none⟩), u, by simp [iaddrA, hi], loadA_one hr, hu⟩
theorem Mat.len {h : Heap} {v : Value} {rows : List (List Int)} (r : Mat h v rows) : lenA v = some rows.length := by
  obtain ⟨hd, r1, _⟩ := r.out; exact r1.len
theorem Mat.small {h : Heap} {v : Value} {rows : List (List Int)} (r : Mat h v rows) : rows.length ≤ 4611686018427387904 := by
  obtain ⟨hd, r1, _⟩ := r.out; exact r1.small
theorem Ints.row {h : Heap} {v : Value} {xs : List Int} (r : Ints h v xs) {i : Nat} (hi : i < xs.length) : ∃ p, iaddrA 1 v (.int .i64 i) = some p ∧ loadA h 1 false p = some (.int .i64 xs[i]) := by
  obtain ⟨p, h1, h2⟩ := r.at hi
  rw [getD_in hi] at h2
  exact ⟨p, h1, h2⟩

end Go.AM
