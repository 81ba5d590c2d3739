/- The abstract machine, part 16: what a law's arguments are in its memory. -/
import Derived.Test.YtkhhdemhlbaboaaAM15
import Derived.ChangeArms
import Derived.OpenShut
import Derived.SizedLaws
set_option linter.unusedVariables false
set_option linter.unusedSimpArgs false
namespace Go.AM
open Go.ChangeShapes

/-- An argument that can be read, of sizes that a machine holds. -/
def Arg (P : Program) (W : World) (t : TypeId) (cs : List Value) : Prop :=
  ∃ (H : Type) (enc : TypeId × Value → H) (fuel : Nat) (x : DataW H × List MemPlace), DataW.trod enc P W 0 (fun _ => true) true fuel t cs = some x ∧ ∀ n ∈ x.1.weights P t, n ≤ reachBytes

section
variable {P : Program} {W : World} {t e : TypeId} {cs : List Value} {v : Value}

theorem arg_int {k : IntKind} (ht : P.underlying t = some (.int k)) (h : Arg P W t cs) : ∃ n, cs = [.int k n] ∧ (Lit.int k n).wf = true := by
  obtain ⟨H, enc, fuel, x, h, _⟩ := h
  obtain ⟨n, h1, _, h2⟩ := DataW.trod_int ht h
  exact ⟨n, h1, h2⟩

theorem weightsAll_mem {H : Type} {P : Program} {e : TypeId} : ∀ {l : List (DataW H)} {d : DataW H}, d ∈ l → ∀ n ∈ d.weights P e, n ∈ DataW.weightsAll P e l
  | a :: l, d, hd, n, hn => by
    simp only [DataW.weightsAll, List.mem_append]
    rcases List.mem_cons.1 hd with rfl | hd
    · exact .inl hn
    · exact .inr (weightsAll_mem hd n hn)

theorem arg_struct {fs : Array Field} (ht : P.underlying t = some (.struct fs)) (h : Arg P W t cs) : cs.length = P.cellsOf t ∧ ∀ (i : Nat) (f : Field), fs[i]? = some f → Arg P W f.type ((cs.drop f.offset).take (P.cellsOf f.type)) := by
  obtain ⟨H, enc, fuel, x, h, hw⟩ := h
  obtain ⟨xs, n, _, rfl, h1, h2, h3⟩ := DataW.trod_struct ht h
  refine ⟨h1, fun i f hf => ?_⟩
  have hi : i < fs.size := (Array.getElem?_eq_some_iff.1 hf).1
  have e1 : xs[i]? = some xs[i] := List.getElem?_eq_getElem (by omega)
  have h4 := h3 i f hf
  rw [e1] at h4
  refine ⟨H, enc, n, _, h4, fun m hm => hw m ?_⟩
  simp only [DataW.weights, ht]
  refine DataW.weights_mem_each (j := i) (t := f.type) (d := xs[i].1) ?_ ?_ m hm
  · rw [List.getElem?_map]
    have : fs.toList[i]? = some f := by simpa using hf
    rw [this]; rfl
  · rw [List.getElem?_map, e1]; rfl

theorem arg_array {m : Nat} (ht : P.underlying t = some (.array m e)) (h : Arg P W t cs) : cs.length = P.cellsOf t ∧ ∀ i, i < m → Arg P W e ((cs.drop (i * P.cellsOf e)).take (P.cellsOf e)) := by
  obtain ⟨H, enc, fuel, x, h, hw⟩ := h
  obtain ⟨xs, n, _, rfl, h1, h2, h3⟩ := DataW.trod_array ht h
  refine ⟨h1, fun i hi => ?_⟩
  have e1 : xs[i]? = some xs[i] := List.getElem?_eq_getElem (by omega)
  have h4 := h3 i hi
  rw [e1] at h4
  refine ⟨H, enc, n, _, h4, fun q hq => hw q ?_⟩
  simp only [DataW.weights, ht]
  exact weightsAll_mem (d := xs[i].1) (List.mem_map.2 ⟨xs[i], List.getElem_mem _, rfl⟩) q hq

theorem mapM_len {α β : Type} {f : α → Option β} : ∀ {l : List α} {r : List β}, l.mapM f = some r → r.length = l.length ∧ ∀ i, i < l.length → (l[i]?).bind f = r[i]?
  | [], r, h => by simp at h; subst h; simp
  | a :: l, r, h => by
    simp only [List.mapM_cons, Option.pure_def, Option.bind_eq_bind, Option.bind_eq_some_iff, Option.some.injEq] at h
    obtain ⟨b, hb, r', hr', rfl⟩ := h
    have := mapM_len hr'
    refine ⟨by simp [this.1], fun i hi => ?_⟩
    cases i with
    | zero => simpa using hb
    | succ i => simpa using this.2 i (by simpa using hi)

theorem cells_spec {w : World} {a : Addr} {n : Nat} {cs : List Value} (h : w.cells? 0 a n = some cs) (hn : n ≠ 0) :
    ∃ C T fz, w.heap[a.block]? = some (.cells C T fz) ∧ a.spot = none ∧ a.off + n ≤ C.size ∧ cs = (C.toList.drop a.off).take n := by
  unfold World.cells? at h
  rw [if_pos (Nat.zero_le _)] at h
  obtain ⟨hl, hg⟩ := mapM_len h
  simp only [List.length_range] at hl hg
  have key : ∀ i, i < n → w.cell? (a.add i) = cs[i]? := fun i hi => by
    have := hg i hi
    rw [List.getElem?_range hi] at this
    exact this
  have h0 := key 0 (by omega)
  rw [List.getElem?_eq_getElem (by omega)] at h0
  have ha0 : a.add 0 = a := by simp [Addr.add]
  rw [ha0] at h0
  obtain ⟨ab, ao, as⟩ := a
  unfold World.cell? at h0
  cases hb : w.heap[ab]? with
  | none => simp [hb] at h0
  | some o =>
    cases o with
    | cells C T fz =>
      simp only [hb] at h0
      have hs : as = none := by
        cases as with
        | none => rfl
        | some s => simp at h0
      subst hs
      have hcell : ∀ i, i < n → C[ao + i]? = cs[i]? := fun i hi => by
        have := key i hi
        rw [Addr.add_eq] at this
        unfold World.cell? at this
        simpa [hb] using this
      have hsize : ao + n ≤ C.size := by
        have := hcell (n - 1) (by omega)
        rw [List.getElem?_eq_getElem (by omega)] at this
        have := (Array.getElem?_eq_some_iff.1 this).1
        omega
      refine ⟨C, T, fz, rfl, rfl, hsize, ?_⟩
      apply List.ext_getElem?
      intro i
      simp only [List.getElem?_take, List.getElem?_drop, Array.getElem?_toList]
      by_cases hi : i < n
      · rw [if_pos hi, hcell i hi]
      · rw [if_neg hi, List.getElem?_eq_none (by omega)]
    | _ => simp [hb] at h0

theorem arg_slice (ht : P.underlying t = some (.slice e)) (hsz : P.cellsOf e ≠ 0) (hby : P.bytesOf e ≠ 0) (h : Arg P W t [v]) :
    ∃ u n, canon W.heap.size v = some u ∧ Fit u ∧ lenA u = some n ∧ n ≤ 140737488351232 ∧ (n ≠ 0 → ∃ b o cap C, u = .slice (some ⟨b, o, none⟩) n cap ∧ b < W.heap.size ∧ (snap W).get b = some { cells := C, esz := 0 } ∧ o + n * P.cellsOf e ≤ C.length ∧
      ∀ i, i < n → Arg P W e ((C.drop (o + i * P.cellsOf e)).take (P.cellsOf e))) := by
  obtain ⟨H, enc, fuel, x, h, hw⟩ := h
  rcases DataW.trod_slice ht h with ⟨h0, _⟩ | ⟨a, len, cap, elems, rest, n, _, h0, rfl, _, hl, hm, hlen, hel, _⟩
  · simp only [List.cons.injEq, and_true] at h0; subst h0
    exact ⟨.slice none 0 0, 0, rfl, ⟨rfl, rfl⟩, rfl, by omega, fun h => absurd rfl h⟩
  · simp only [List.cons.injEq, and_true] at h0; subst h0
    have hbound : len ≤ 140737488351232 := by
      have := hw ((elems.length + rest.length) * P.bytesOf e) (by simp [DataW.weights, ht])
      have h2 : len ≤ (elems.length + rest.length) * P.bytesOf e := Nat.le_trans (show len ≤ elems.length + rest.length by omega) (Nat.le_mul_of_pos_right _ (by omega))
      have : reachBytes = 140737488351232 := rfl
      omega
    by_cases hn : len = 0
    · subst hn
      by_cases hc : cellOk W.heap.size (.slice (some a) 0 cap) = true
      · exact ⟨.slice (some a) 0 cap, 0, by simp [canon, hc], (by
          obtain ⟨ab, ao, as⟩ := a
          cases as with
          | none => exact Nat.zero_le _
          | some s => simp [cellOk] at hc), rfl, by omega, fun h => absurd rfl h⟩
      · exact ⟨.slice (some ⟨0, 0, some 2⟩) 0 0, 0, by simp [canon, hc], ⟨rfl, .inr (.inr ⟨rfl, rfl⟩)⟩, rfl, by omega, fun h => absurd rfl h⟩
    · have elem : ∀ i, i < len → ∃ ecs, W.cells? 0 (a.add (i * P.cellsOf e)) (P.cellsOf e) = some ecs ∧ Arg P W e ecs := by
        intro i hi
        have h1 := hel i hi
        rw [List.getElem?_eq_getElem (by omega)] at h1
        obtain ⟨ecs, h2, h3⟩ := Option.bind_eq_some_iff.1 h1
        refine ⟨ecs, h2, H, enc, n, _, h3, fun m hm => hw m ?_⟩
        simp only [DataW.weights, ht, List.mem_cons, List.mem_append]
        exact .inr (.inl (weightsAll_mem (d := elems[i].1) (List.mem_map.2 ⟨elems[i], List.getElem_mem _, rfl⟩) m hm))
      obtain ⟨e0, h1, _⟩ := elem 0 (by omega)
      have ha0 : a.add (0 * P.cellsOf e) = a := by simp [Addr.add]
      rw [ha0] at h1
      obtain ⟨C, T, fz, hb', hs', _, _⟩ := cells_spec h1 hsz
      have hlt : a.block < W.heap.size := lt_of_heap hb'
      obtain ⟨ab, ao, as⟩ := a
      simp only at hs' hlt hb'
      subst hs'
      refine ⟨.slice (some ⟨ab, ao, none⟩) len cap, len, by simp [canon, cellOk, hlt], hl, rfl, hbound, fun _ => ⟨ab, ao, cap, C.toList, rfl, hlt, by simp only [snap]; rw [if_pos hlt, hb'], ?_, fun i hi => ?_⟩⟩
      · obtain ⟨el, h1, _⟩ := elem (len - 1) (by omega)
        rw [Addr.add_eq] at h1
        obtain ⟨C2, T2, fz2, hb2', _, hsz2, _⟩ := cells_spec h1 hsz
        simp only at hb2' hsz2
        rw [hb'] at hb2'
        simp only [Option.some.injEq, Obj.cells.injEq] at hb2'
        obtain ⟨rfl, _⟩ := hb2'
        have e3 : len * P.cellsOf e = (len - 1) * P.cellsOf e + P.cellsOf e := by
          conv => lhs; rw [show len = len - 1 + 1 by omega, Nat.succ_mul]
        simp; omega
      · obtain ⟨el, h1, h2⟩ := elem i hi
        rw [Addr.add_eq] at h1
        obtain ⟨C2, T2, fz2, hb2', _, hsz2, h3⟩ := cells_spec h1 hsz
        simp only at hb2' h3
        rw [hb'] at hb2'
        simp only [Option.some.injEq, Obj.cells.injEq] at hb2'
        obtain ⟨rfl, _⟩ := hb2'
        rw [← h3]; exact h2

/-- A slice whose elements are known, cell by cell. -/
theorem arg_rows {α : Type} (enc : α → List Value) (Good : α → Prop) {sz : Nat} (ht : P.underlying t = some (.slice e)) (hc : P.cellsOf e = sz) (hsz : sz ≠ 0) (hby : P.bytesOf e ≠ 0) (hl : ∀ a, (enc a).length = sz)
    (he : ∀ cs, Arg P W e cs → ∃ a, canons W.heap.size cs = some (enc a) ∧ Good a) (h : Arg P W t [v]) :
    ∃ (u : Value) (l : List α), canon W.heap.size v = some u ∧ Fit u ∧ Reads (snap W) u l.length sz (l.flatMap enc) ∧ (∀ a ∈ l, Good a) ∧ l.length ≤ 140737488351232 := by
  subst hc
  obtain ⟨u, n, h1, hf, h2, h3, h4⟩ := arg_slice ht hsz hby h
  by_cases hn : n = 0
  · subst hn
    exact ⟨u, [], h1, hf, ⟨h2, by simp, by simp, fun h => absurd rfl h⟩, by simp, by simp⟩
  · obtain ⟨b, o, cap, C, rfl, hb, hg, hC, hE⟩ := h4 hn
    have key : ∀ m, m ≤ n → ∃ l : List α, l.length = m ∧ canons W.heap.size ((C.drop o).take (m * P.cellsOf e)) = some (l.flatMap enc) ∧ ∀ a ∈ l, Good a := by
      intro m
      induction m with
      | zero => intro _; exact ⟨[], rfl, by simp [canons], by simp⟩
      | succ m ih =>
        intro hm
        obtain ⟨l, l1, l2, l3⟩ := ih (by omega)
        obtain ⟨a, a1, a2⟩ := he _ (hE m (by omega))
        refine ⟨l ++ [a], by simp [l1], ?_, fun x hx => ?_⟩
        · have e1 : (C.drop o).take ((m + 1) * P.cellsOf e) = (C.drop o).take (m * P.cellsOf e) ++ (C.drop (o + m * P.cellsOf e)).take (P.cellsOf e) := by
            rw [Nat.succ_mul, List.take_add, List.drop_drop]
          rw [e1, canons_append l2 a1]; simp
        · rcases List.mem_append.1 hx with hx | hx
          · exact l3 x hx
          · simp only [List.mem_singleton] at hx; subst hx; exact a2
    obtain ⟨l, l1, l2, l3⟩ := key n (Nat.le_refl _)
    refine ⟨_, l, h1, hf, ⟨by rw [l1]; exact h2, by omega, ?_, fun _ => ⟨b, o, none, cap, by rw [l1], ?_⟩⟩, l3, by omega⟩
    · clear l1 l2 l3
      induction l with
      | nil => simp
      | cons a l ih => simp [hl a, ih, Nat.succ_mul]; omega
    · unfold Heap.read Heap.cells
      have hnb : ¬ (snap W).base ≤ b := by show ¬ W.heap.size ≤ b; omega
      simp only [hg, l1, hC, if_true, hnb, if_false]
      exact l2

theorem flatMap_one {α β : Type} (f : α → β) (l : List α) : l.flatMap (fun a => [f a]) = l.map f := by
  induction l with
  | nil => rfl
  | cons a l ih => rw [List.flatMap_cons, ih]; rfl

theorem cellsOf_int {k : IntKind} {cs : List Value} (ht : P.underlying e = some (.int k)) (h : Arg P W e cs) : ∃ x, canons W.heap.size cs = some [.int k x] ∧ (Lit.int k x).wf = true := by
  obtain ⟨n, rfl, hw⟩ := arg_int ht h
  exact ⟨n, rfl, hw⟩

/-- A slice of whole numbers of some kind. -/
theorem arg_ints {k : IntKind} (ht : P.underlying t = some (.slice e)) (he : P.underlying e = some (.int k)) (hc : P.cellsOf e = 1) (hby : P.bytesOf e ≠ 0) (h : Arg P W t [v]) :
    ∃ (u : Value) (xs : List Int), canon W.heap.size v = some u ∧ Fit u ∧ Reads (snap W) u xs.length 1 (xs.map (.int k)) ∧ (∀ x ∈ xs, (Lit.int k x).wf = true) ∧ xs.length ≤ 140737488351232 := by
  obtain ⟨u, l, h1, hf, h2, h3, h4⟩ := arg_rows (α := Int) (fun x => [.int k x]) (fun x => (Lit.int k x).wf = true) ht hc (by omega) hby (fun _ => rfl) (fun cs => cellsOf_int he) h
  refine ⟨u, l, h1, hf, ?_, h3, h4⟩
  rw [flatMap_one] at h2; exact h2

/-- A slice of slices of whole numbers. -/
theorem arg_mat {q : TypeId} (ht : P.underlying t = some (.slice e)) (he : P.underlying e = some (.slice q)) (hq : P.underlying q = some (.int .i64)) (hc : P.cellsOf e = 1) (hby : P.bytesOf e ≠ 0) (hc2 : P.cellsOf q = 1) (hby2 : P.bytesOf q ≠ 0) (h : Arg P W t [v]) :
    ∃ (u : Value) (rows : List (List Int)), canon W.heap.size v = some u ∧ Fit u ∧ Mat (snap W) u rows ∧ (∀ r ∈ rows, ∀ x ∈ r, (Lit.int .i64 x).wf = true) ∧ rows.length ≤ 140737488351232 ∧ ∀ r ∈ rows, r.length ≤ 140737488351232 := by
  have he' : ∀ cs, Arg P W e cs → ∃ a : Value × List Int, canons W.heap.size cs = some [a.1] ∧ (Ints (snap W) a.1 a.2 ∧ Fit a.1 ∧ (∀ x ∈ a.2, (Lit.int .i64 x).wf = true) ∧ a.2.length ≤ 140737488351232) := by
    intro cs hcs
    have hone : ∃ v, cs = [v] := by
      obtain ⟨H, enc, fuel, x, hx, _⟩ := hcs
      rcases DataW.trod_slice he hx with ⟨rfl, _⟩ | ⟨a, len, cap, elems, rest, n, _, rfl, _⟩
      · exact ⟨_, rfl⟩
      · exact ⟨_, rfl⟩
    obtain ⟨v, rfl⟩ := hone
    obtain ⟨u, xs, h1, hf, h2, h3, h4⟩ := arg_ints he hq hc2 hby2 hcs
    exact ⟨(u, xs), by simp [canons, h1], h2, hf, h3, h4⟩
  obtain ⟨u, l, h1, hf, h2, h3, h4⟩ := arg_rows (α := Value × List Int) (fun a => [a.1]) _ ht hc (by omega) hby (fun _ => rfl) he' h
  rw [flatMap_one] at h2
  refine ⟨u, l.map (·.2), h1, hf, ⟨⟨l.map (·.1), by simpa using h2, by simp, fun i hi => ?_⟩⟩, ?_, by simpa using h4, ?_⟩
  · simp only [List.length_map] at hi
    have e1 : (l.map (·.1)).getD i undef = l[i].1 := by simp [List.getD, hi]
    have e2 : (l.map (·.2)).getD i [] = l[i].2 := by simp [List.getD, hi]
    rw [e1, e2]
    exact ⟨(h3 _ (List.getElem_mem hi)).1, (h3 _ (List.getElem_mem hi)).2.1⟩
  · intro r hr x hx
    obtain ⟨a, ha, rfl⟩ := List.mem_map.1 hr
    exact (h3 a ha).2.2.1 x hx
  · intro r hr
    obtain ⟨a, ha, rfl⟩ := List.mem_map.1 hr
    exact (h3 a ha).2.2.2

theorem wf_i64 {x : Int} (h : (Lit.int .i64 x).wf = true) : -9223372036854775808 ≤ x ∧ x ≤ 9223372036854775807 := by
  have e : IntKind.i64.min = -9223372036854775808 := rfl
  have h2 : IntKind.i64.min ≤ x ∧ x ≤ 9223372036854775807 := by simpa [Lit.wf] using h
  rw [e] at h2; exact h2
theorem wf_u8 {x : Int} (h : (Lit.int .u8 x).wf = true) : 0 ≤ x ∧ x < 256 := by
  have e : IntKind.u8.min = 0 := rfl
  have e2 : IntKind.u8.max = 255 := rfl
  have h2 : IntKind.u8.min ≤ x ∧ x ≤ IntKind.u8.max := by simpa [Lit.wf] using h
  rw [e, e2] at h2; omega

theorem len_one {l : List Value} (h : l.length = 1) : ∃ a, l = [a] := by
  match l, h with
  | [a], _ => exact ⟨a, rfl⟩
theorem len_two {l : List Value} (h : l.length = 2) : ∃ a b, l = [a, b] := by
  match l, h with
  | [a, b], _ => exact ⟨a, b, rfl⟩
theorem len_four {l : List Value} (h : l.length = 4) : ∃ a b c d, l = [a, b, c, d] := by
  match l, h with
  | [a, b, c, d], _ => exact ⟨a, b, c, d, rfl⟩
theorem len_five {l : List Value} (h : l.length = 5) : ∃ a b c d e, l = [a, b, c, d, e] := by
  match l, h with
  | [a, b, c, d, e], _ => exact ⟨a, b, c, d, e, rfl⟩
theorem okWide_array {r : Reach} {b0 n : Nat} (ht : P.underlying t = some (.array n e)) (h : Value.okWide P W r b0 t v) : ∃ cs, v = .agg cs ∧ cs.size = P.cellsOf t := by
  simp only [Value.okWide, ht] at h
  obtain ⟨cs, h1, h2, _⟩ := h
  exact ⟨cs, h1, h2⟩
theorem ok_snap (W : World) : Ok (snap W) := ⟨fun b hb => by simp only [snap]; rw [if_neg]; exact Nat.not_lt.2 hb, Nat.le_refl _⟩
theorem canonArg_slice {B : Nat} {a : Option Addr} {l c : Nat} : canonArg B (.slice a l c) = canon B (.slice a l c) := _root_.id rfl
theorem canonArg_int {B : Nat} {k : IntKind} {n : Int} : canonArg B (.int k n) = some (.int k n) := _root_.id rfl
theorem canonArg_bool {B : Nat} {b : Bool} : canonArg B (.bool b) = some (.bool b) := _root_.id rfl
theorem canonArg_agg {B : Nat} {l r : List Value} (h : canons B l = some r) : canonArg B (.agg l.toArray) = some (.agg r.toArray) := by simp [canonArg, h]
theorem canon_int {B : Nat} {k : IntKind} {n : Int} : canon B (.int k n) = some (.int k n) := _root_.id rfl
theorem canon_bool {B : Nat} {b : Bool} : canon B (.bool b) = some (.bool b) := _root_.id rfl
theorem canonArgs_nil {B : Nat} : canonArgs B [] = some [] := _root_.id rfl
theorem canonArgs_cons {B : Nat} {v u : Value} {l r : List Value} (h : canonArg B v = some u) (k : canonArgs B l = some r) : canonArgs B (v :: l) = some (u :: r) := by simp [canonArgs, h, k]
theorem canons_cons {B : Nat} {v u : Value} {l r : List Value} (h : canon B v = some u) (k : canons B l = some r) : canons B (v :: l) = some (u :: r) := by simp [canons, h, k]
/-- Bytes, as naturals. -/
theorem nats_of {xs : List Int} (h : ∀ x ∈ xs, (Lit.int .u8 x).wf = true) : ∃ l : List Nat, xs = l.map Int.ofNat ∧ ∀ y ∈ l, y < 256 := by
  refine ⟨xs.map Int.toNat, ?_, fun y hy => ?_⟩
  · rw [List.map_map]
    conv => lhs; rw [← List.map_id xs]
    apply List.map_congr_left
    intro x hx
    have := wf_u8 (h x hx)
    simp; omega
  · obtain ⟨x, hx, rfl⟩ := List.mem_map.1 hy
    have := wf_u8 (h x hx)
    omega
end

end Go.AM
