/- The law TrackGametes holds: for every input it returns true, and the input reads as before. No conditions. -/
import Derived.Test.YtkhhdemhlbaboaaRows
import Derived.Test.YtkhhdemhlbaboaaFnOk
import Derived.Test.YtkhhdemhlbaboaaAM16
import Derived.Test.YtkhhdemhlbaboaaK22
import Derived.WalkKit
import Derived.ProofKit
import Derived.OpenShut
import Derived.ShutString
import Derived.ChangeOld
import Derived.Below
import Derived.Carry
import Derived.SizedLaws
namespace Go.Proofs.Ytkhhdemhlbaboaa.trackGametes
open Go.ChangeShapes Go.WideShapes Go.ChangeAt Go.RowKit Go.AM Go.AM.Fn
set_option linter.unusedVariables false
set_option linter.unusedSimpArgs false
theorem own : ownKnob Try.prog.godebug = none := by kernel_rfl
theorem laidOut : laidOutB Try.prog = true := by kernel_rfl
set_option maxRecDepth 100000 in
theorem lifted (os : Os) (started : os.Started) (H : Type) (enc : TypeId × Value → H) :
    ReturnsInHanded {} Try.checked os 7 .any (Rows.trackGametesSpec.pre6 enc Try.prog Try.f7 Rows.trackGametesRow.domain false) (Rows.trackGametesSpec.post enc Try.prog Try.f7 false true false false) := by
  refine returnsInHanded_of_change_sized (C := Try.checked) own started (by kernel_rfl) Try.func7
    (ChangeSpec.witness6 (enc := enc) (C := Try.checked) false ⟨#[], #[.int .u8 0, .slice none 0 0], []⟩ 8 (by kernel_rfl) (by kernel_rfl) (by kernel_rfl) (by kernel_rfl)) ?_
  intro W base args ds gs before hval0 hW hcnd hsz0 _
  have hsz : (DataW.weightsEach Try.prog (Try.f7.params.toList ++ Rows.trackGametesSpec.plain.varTypes Try.prog) (ds ++ gs)).all (· ≤ reachBytes) = true := hsz0
  have hval : ∀ (j : Nat) t v, Try.f7.params[j]? = some t → args[j]? = some v → Value.okWide Try.prog W .any base t v := hval0
  have hW' := hW
  obtain ⟨p, q, hA0, hV, rfl, hfz, hnd⟩ := hW
  have hA : DataW.TrodAll enc Try.prog W 0 (fun _ => true) true Try.f7.params.toList args.toList ds p := hA0
  rw [Try.params7] at hA hval hsz
  obtain ⟨v0, vs0, d0, ds0, p0, q0, hargs, rfl, rfl, h0, r0⟩ := trodAll_cons hA
  obtain ⟨v1, vs1, d1, ds1, p1, q1, rfl, rfl, rfl, h1, r1⟩ := trodAll_cons r0
  obtain ⟨rfl, rfl, rfl⟩ := trodAll_nil r1
  obtain rfl : args = #[v0, v1] := by cases args; simp_all
  obtain ⟨rfl, rfl⟩ := trodVars_none hV
  have k0 := h0
  have lt0 : ∀ x ∈ p0, x.block < W.heap.size := by obtain ⟨m, hm⟩ := k0; exact DataW.trod_lt m _ _ _ hm
  have B0 : Arg Try.prog W 5 v0.cells.toList := by obtain ⟨m, hm⟩ := k0; exact ⟨_, _, m, _, hm, fun n hn => of_decide_eq_true (List.all_eq_true.1 hsz _ (DataW.weights_mem_each (j := 0) rfl rfl n hn))⟩
  have k1 := h1
  have lt1 : ∀ x ∈ p1, x.block < W.heap.size := by obtain ⟨m, hm⟩ := k1; exact DataW.trod_lt m _ _ _ hm
  have B1 : Arg Try.prog W 39 v1.cells.toList := by obtain ⟨m, hm⟩ := k1; exact ⟨_, _, m, _, hm, fun n hn => of_decide_eq_true (List.all_eq_true.1 hsz _ (DataW.weights_mem_each (j := 1) rfl rfl n hn))⟩
  obtain ⟨a0, rfl, rfl, rfl, w0⟩ := open_int Try.underlying5 (hval 0 5 v0 rfl rfl) h0
  obtain ⟨ad1, len1, cap1, rfl⟩ := okWide_slice Try.underlying39 (hval 1 39 v1 rfl rfl)
  have A1 : Arg Try.prog W 39 [.slice ad1 len1 cap1] := B1
  obtain ⟨u1, x1, hc1, hf1, hr1, hg1, hl1⟩ := arg_ints Try.underlying39 Try.underlying5 (show Try.prog.cellsOf 5 = 1 by kernel_rfl) (show Try.prog.bytesOf 5 ≠ 0 by rw [show Try.prog.bytesOf 5 = 1 by kernel_rfl]; decide) A1
  have walk : Go.AM.Call Go.AM.Fn.T1 7 [.int .u8 a0, u1] (snap W) (fun v _ => v = .bool true) := K.gametes_law (ok_snap W) (wf_u8 w0) ⟨hr1, fun x hx => wf_u8 (hg1 x hx)⟩
  refine (law_calls (Go.AM.Call.sound sound1) (Nat.zero_le _) (canonArgs_cons canonArg_int (canonArgs_cons (canonArg_slice.trans hc1) canonArgs_nil)) walk).mono fun e W' ⟨he, bel⟩ => ?_
  subst he
  exact ⟨_, rfl, _, _, _, [], _, [], hW', trodAll_mk1 (shut_bool Try.underlying4 _), (trodAll_cons_mk (Below.trod laidOut (by kernel_rfl) (of_decide_eq_true (by kernel_rfl)) k0 bel lt0) (trodAll_cons_mk (Below.trod laidOut (by kernel_rfl) (of_decide_eq_true (by kernel_rfl)) k1 bel lt1) trodAll_mk0)), rfl, bel.frame _, fun h => by cases h⟩
theorem over : Rows.trackGametesRow.holds Try.pinned (OpenSpec.ofChange Rows.trackGametesSpec) :=
  OpenClaim.holds_of_wide 7 Try.f7 rfl rfl rfl rfl rfl rfl rfl ⟨rfl, rfl, rfl, rfl, rfl⟩ rfl rfl rfl rfl rfl (by kernel_rfl) Try.func7 (by kernel_rfl)
    (of_decide_eq_true (by kernel_rfl)) (by unfold Func.isWrapper; first | (rw [if_pos (by decide +kernel)]; kernel_rfl) | (rw [if_neg (by decide +kernel)]; exact ⟨rfl, rfl⟩))
    (fun os started H enc _ => lifted os started H enc)
theorem proved : Rows.TrackGametesSaid := over
#print axioms proved
end Go.Proofs.Ytkhhdemhlbaboaa.trackGametes
namespace Go.Proofs.Ytkhhdemhlbaboaa
/-- The row, under a short name, for the claim. -/
theorem trackGametes_holds : Rows.TrackGametesSaid := trackGametes.proved
end Go.Proofs.Ytkhhdemhlbaboaa
