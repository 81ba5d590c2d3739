/- The law QueueSame holds: for every input it returns true, and the input reads as before. No conditions. -/
import Derived.Test.YtpbaaidmgfbdbaaRows
import Derived.Test.YtpbaaidmgfbdbaaFnOk
import Derived.Test.YtpbaaidmgfbdbaaAM16
import Derived.Test.YtpbaaidmgfbdbaaQ17
import Derived.WalkKit
import Derived.ProofKit
import Derived.OpenShut
import Derived.ShutString
import Derived.ChangeOld
import Derived.Below
import Derived.Carry
import Derived.SizedLaws
namespace Go.Proofs.Ytpbaaidmgfbdbaa.queueSame
open Go.ChangeShapes Go.WideShapes Go.ChangeAt Go.RowKit Go.AM Go.AM.Fn
set_option linter.unusedVariables false
set_option linter.unusedSimpArgs false
theorem own : ownKnob Try.prog.godebug = none := by kernel_rfl
theorem laidOut : laidOutB Try.prog = true := by kernel_rfl
set_option maxRecDepth 100000 in
theorem lifted (os : Os) (started : os.Started) (H : Type) (enc : TypeId × Value → H) :
    ReturnsInHanded {} Try.checked os 3 .any (Rows.queueSameSpec.pre6 enc Try.prog Try.f3 Rows.queueSameRow.domain false) (Rows.queueSameSpec.post enc Try.prog Try.f3 false true false false) := by
  refine returnsInHanded_of_change_sized (C := Try.checked) own started (by kernel_rfl) Try.func3
    (ChangeSpec.witness6 (enc := enc) (C := Try.checked) false ⟨#[], #[.agg #[.int .u8 0, .int .u8 0], .slice none 0 0, .bool false], []⟩ 8 (by kernel_rfl) (by kernel_rfl) (by kernel_rfl) (by kernel_rfl)) ?_
  intro W base args ds gs before hval0 hW hcnd hsz0 _
  have hsz : (DataW.weightsEach Try.prog (Try.f3.params.toList ++ Rows.queueSameSpec.plain.varTypes Try.prog) (ds ++ gs)).all (· ≤ reachBytes) = true := hsz0
  have hval : ∀ (j : Nat) t v, Try.f3.params[j]? = some t → args[j]? = some v → Value.okWide Try.prog W .any base t v := hval0
  have hW' := hW
  obtain ⟨p, q, hA0, hV, rfl, hfz, hnd⟩ := hW
  have hA : DataW.TrodAll enc Try.prog W 0 (fun _ => true) true Try.f3.params.toList args.toList ds p := hA0
  rw [Try.params3] at hA hval hsz
  obtain ⟨v0, vs0, d0, ds0, p0, q0, hargs, rfl, rfl, h0, r0⟩ := trodAll_cons hA
  obtain ⟨v1, vs1, d1, ds1, p1, q1, rfl, rfl, rfl, h1, r1⟩ := trodAll_cons r0
  obtain ⟨v2, vs2, d2, ds2, p2, q2, rfl, rfl, rfl, h2, r2⟩ := trodAll_cons r1
  obtain ⟨rfl, rfl, rfl⟩ := trodAll_nil r2
  obtain rfl : args = #[v0, v1, v2] := by cases args; simp_all
  obtain ⟨rfl, rfl⟩ := trodVars_none hV
  have k0 := h0
  have lt0 : ∀ x ∈ p0, x.block < W.heap.size := by obtain ⟨m, hm⟩ := k0; exact DataW.trod_lt m _ _ _ hm
  have B0 : Arg Try.prog W 22 v0.cells.toList := by obtain ⟨m, hm⟩ := k0; exact ⟨_, _, m, _, hm, fun n hn => of_decide_eq_true (List.all_eq_true.1 hsz _ (DataW.weights_mem_each (j := 0) rfl rfl n hn))⟩
  have k1 := h1
  have lt1 : ∀ x ∈ p1, x.block < W.heap.size := by obtain ⟨m, hm⟩ := k1; exact DataW.trod_lt m _ _ _ hm
  have B1 : Arg Try.prog W 23 v1.cells.toList := by obtain ⟨m, hm⟩ := k1; exact ⟨_, _, m, _, hm, fun n hn => of_decide_eq_true (List.all_eq_true.1 hsz _ (DataW.weights_mem_each (j := 1) rfl rfl n hn))⟩
  have k2 := h2
  have lt2 : ∀ x ∈ p2, x.block < W.heap.size := by obtain ⟨m, hm⟩ := k2; exact DataW.trod_lt m _ _ _ hm
  have B2 : Arg Try.prog W 4 v2.cells.toList := by obtain ⟨m, hm⟩ := k2; exact ⟨_, _, m, _, hm, fun n hn => of_decide_eq_true (List.all_eq_true.1 hsz _ (DataW.weights_mem_each (j := 2) rfl rfl n hn))⟩
  obtain ⟨cs0, rfl, sz0⟩ := okWide_array Try.underlying22 (hval 0 22 v0 rfl rfl)
  have s0 := arg_array Try.underlying22 (show Arg Try.prog W 22 cs0.toList from B0)
  obtain ⟨c0_0, c0_1, hcs0⟩ := len_two (s0.1.trans (show Try.prog.cellsOf 22 = 2 by kernel_rfl))
  obtain rfl : cs0 = [c0_0, c0_1].toArray := by rw [← hcs0]
  clear hcs0
  have A0_0 : Arg Try.prog W 5 [c0_0] := by
    have := s0.2 0 (by decide)
    simpa [(show Try.prog.cellsOf 5 = 1 by kernel_rfl)] using this
  have A0_1 : Arg Try.prog W 5 [c0_1] := by
    have := s0.2 1 (by decide)
    simpa [(show Try.prog.cellsOf 5 = 1 by kernel_rfl)] using this
  clear s0
  obtain ⟨a0_0, e0_0, w0_0⟩ := arg_int Try.underlying5 A0_0; simp only [List.cons.injEq, and_true] at e0_0; subst e0_0
  obtain ⟨a0_1, e0_1, w0_1⟩ := arg_int Try.underlying5 A0_1; simp only [List.cons.injEq, and_true] at e0_1; subst e0_1
  obtain ⟨ad1, len1, cap1, rfl⟩ := okWide_slice Try.underlying23 (hval 1 23 v1 rfl rfl)
  have A1 : Arg Try.prog W 23 [.slice ad1 len1 cap1] := B1
  obtain ⟨u1, x1, hc1, hf1, hr1, hg1, hl1⟩ := arg_ints Try.underlying23 Try.underlying5 (show Try.prog.cellsOf 5 = 1 by kernel_rfl) (show Try.prog.bytesOf 5 ≠ 0 by rw [show Try.prog.bytesOf 5 = 1 by kernel_rfl]; decide) A1
  obtain ⟨a2, rfl, rfl, rfl⟩ := open_bool Try.underlying4 (hval 2 4 v2 rfl rfl) h2
  obtain ⟨l1, rfl, hb1⟩ := nats_of hg1
  obtain ⟨n0, e0⟩ : ∃ n : Nat, a0_0 = n := ⟨a0_0.toNat, by have := wf_u8 w0_0; omega⟩
  obtain ⟨n1, e1⟩ : ∃ n : Nat, a0_1 = n := ⟨a0_1.toNat, by have := wf_u8 w0_1; omega⟩
  have z0 := wf_u8 w0_0
  have z1 := wf_u8 w0_1
  have hrd : Q.Bytes (snap W) u1 l1 := by unfold Q.Bytes; rw [List.map_map, List.length_map] at hr1; exact hr1
  have walk : Go.AM.Call Go.AM.Fn.T 3 [.agg #[.int .u8 a0_0, .int .u8 a0_1], u1, .bool a2] (snap W) (fun v _ => v = .bool true) := by rw [e0, e1]; exact Q.same_law (ok_snap W) hrd hb1 (by omega) (by omega) a2
  refine (law_calls (Go.AM.Call.sound sound) (Nat.zero_le _) (canonArgs_cons (canonArg_agg (canons_cons canon_int (canons_cons canon_int (show canons _ [] = some [] from rfl)))) (canonArgs_cons (canonArg_slice.trans hc1) (canonArgs_cons canonArg_bool canonArgs_nil))) walk).mono fun e W' ⟨he, bel⟩ => ?_
  subst he
  exact ⟨_, rfl, _, _, _, [], _, [], hW', trodAll_mk1 (shut_bool Try.underlying4 _), (trodAll_cons_mk (Below.trod laidOut (by kernel_rfl) (of_decide_eq_true (by kernel_rfl)) k0 bel lt0) (trodAll_cons_mk (Below.trod laidOut (by kernel_rfl) (of_decide_eq_true (by kernel_rfl)) k1 bel lt1) (trodAll_cons_mk (Below.trod laidOut (by kernel_rfl) (of_decide_eq_true (by kernel_rfl)) k2 bel lt2) trodAll_mk0))), rfl, bel.frame _, fun h => by cases h⟩
theorem over : Rows.queueSameRow.holds Try.pinned (OpenSpec.ofChange Rows.queueSameSpec) :=
  OpenClaim.holds_of_wide 3 Try.f3 rfl rfl rfl rfl rfl rfl rfl ⟨rfl, rfl, rfl, rfl, rfl⟩ rfl rfl rfl rfl rfl (by kernel_rfl) Try.func3 (by kernel_rfl)
    (of_decide_eq_true (by kernel_rfl)) (by unfold Func.isWrapper; first | (rw [if_pos (by decide +kernel)]; kernel_rfl) | (rw [if_neg (by decide +kernel)]; exact ⟨rfl, rfl⟩))
    (fun os started H enc _ => lifted os started H enc)
theorem proved : Rows.QueueSameSaid := over
#print axioms proved
end Go.Proofs.Ytpbaaidmgfbdbaa.queueSame
namespace Go.Proofs.Ytpbaaidmgfbdbaa
/-- The row, under a short name, for the claim. -/
theorem queueSame_holds : Rows.QueueSameSaid := queueSame.proved
end Go.Proofs.Ytpbaaidmgfbdbaa
