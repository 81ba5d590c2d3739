/- The law TrackFitch holds: for every input it returns true, and the input reads as before. No conditions. -/
import Derived.Test.YtkhhdemhlbaboaaRows
import Derived.Test.YtkhhdemhlbaboaaFnOk
import Derived.Test.YtkhhdemhlbaboaaAM16
import Derived.Test.YtkhhdemhlbaboaaK17
import Derived.WalkKit
import Derived.ProofKit
import Derived.OpenShut
import Derived.ShutString
import Derived.ChangeOld
import Derived.Below
import Derived.Carry
import Derived.SizedLaws
namespace Go.Proofs.Ytkhhdemhlbaboaa.trackFitch
open Go.ChangeShapes Go.WideShapes Go.ChangeAt Go.RowKit Go.AM Go.AM.Fn
set_option linter.unusedVariables false
set_option linter.unusedSimpArgs false
theorem own : ownKnob Try.prog.godebug = none := by kernel_rfl
theorem laidOut : laidOutB Try.prog = true := by kernel_rfl
set_option maxRecDepth 100000 in
theorem lifted (os : Os) (started : os.Started) (H : Type) (enc : TypeId × Value → H) :
    ReturnsInHanded {} Try.checked os 4 .any (Rows.trackFitchSpec.pre6 enc Try.prog Try.f4 Rows.trackFitchRow.domain false) (Rows.trackFitchSpec.post enc Try.prog Try.f4 false true false false) := by
  refine returnsInHanded_of_change_sized (C := Try.checked) own started (by kernel_rfl) Try.func4
    (ChangeSpec.witness6 (enc := enc) (C := Try.checked) false ⟨#[], #[.agg #[.int .u8 0, .int .u8 0, .slice none 0 0, .slice none 0 0, .slice none 0 0]], []⟩ 8 (by kernel_rfl) (by kernel_rfl) (by kernel_rfl) (by kernel_rfl)) ?_
  intro W base args ds gs before hval0 hW hcnd hsz0 _
  have hsz : (DataW.weightsEach Try.prog (Try.f4.params.toList ++ Rows.trackFitchSpec.plain.varTypes Try.prog) (ds ++ gs)).all (· ≤ reachBytes) = true := hsz0
  have hval : ∀ (j : Nat) t v, Try.f4.params[j]? = some t → args[j]? = some v → Value.okWide Try.prog W .any base t v := hval0
  have hW' := hW
  obtain ⟨p, q, hA0, hV, rfl, hfz, hnd⟩ := hW
  have hA : DataW.TrodAll enc Try.prog W 0 (fun _ => true) true Try.f4.params.toList args.toList ds p := hA0
  rw [Try.params4] at hA hval hsz
  obtain ⟨v0, vs0, d0, ds0, p0, q0, hargs, rfl, rfl, h0, r0⟩ := trodAll_cons hA
  obtain ⟨rfl, rfl, rfl⟩ := trodAll_nil r0
  obtain rfl : args = #[v0] := by cases args; simp_all
  obtain ⟨rfl, rfl⟩ := trodVars_none hV
  have k0 := h0
  have lt0 : ∀ x ∈ p0, x.block < W.heap.size := by obtain ⟨m, hm⟩ := k0; exact DataW.trod_lt m _ _ _ hm
  have B0 : Arg Try.prog W 41 v0.cells.toList := by obtain ⟨m, hm⟩ := k0; exact ⟨_, _, m, _, hm, fun n hn => of_decide_eq_true (List.all_eq_true.1 hsz _ (DataW.weights_mem_each (j := 0) rfl rfl n hn))⟩
  obtain ⟨cs0, rfl, sz0⟩ := okWide_struct Try.underlying41 (hval 0 41 v0 rfl rfl)
  have s0 := arg_struct Try.underlying41 (show Arg Try.prog W 41 cs0.toList from B0)
  obtain ⟨c0_0, c0_1, c0_2, c0_3, c0_4, hcs0⟩ := len_five (s0.1.trans (show Try.prog.cellsOf 41 = 5 by kernel_rfl))
  obtain rfl : cs0 = [c0_0, c0_1, c0_2, c0_3, c0_4].toArray := by rw [← hcs0]
  clear hcs0
  have A0_0 : Arg Try.prog W 5 [c0_0] := by
    have := s0.2 0 _ rfl
    simpa [(show Try.prog.cellsOf 5 = 1 by kernel_rfl)] using this
  have A0_1 : Arg Try.prog W 5 [c0_1] := by
    have := s0.2 1 _ rfl
    simpa [(show Try.prog.cellsOf 5 = 1 by kernel_rfl)] using this
  have A0_2 : Arg Try.prog W 39 [c0_2] := by
    have := s0.2 2 _ rfl
    simpa [(show Try.prog.cellsOf 39 = 1 by kernel_rfl)] using this
  have A0_3 : Arg Try.prog W 39 [c0_3] := by
    have := s0.2 3 _ rfl
    simpa [(show Try.prog.cellsOf 39 = 1 by kernel_rfl)] using this
  have A0_4 : Arg Try.prog W 39 [c0_4] := by
    have := s0.2 4 _ rfl
    simpa [(show Try.prog.cellsOf 39 = 1 by kernel_rfl)] using this
  clear s0
  obtain ⟨a0_0, e0_0, w0_0⟩ := arg_int Try.underlying5 A0_0; simp only [List.cons.injEq, and_true] at e0_0; subst e0_0
  obtain ⟨a0_1, e0_1, w0_1⟩ := arg_int Try.underlying5 A0_1; simp only [List.cons.injEq, and_true] at e0_1; subst e0_1
  obtain ⟨u0_2, x0_2, hc0_2, hf0_2, hr0_2, hg0_2, hl0_2⟩ := arg_ints Try.underlying39 Try.underlying5 (show Try.prog.cellsOf 5 = 1 by kernel_rfl) (show Try.prog.bytesOf 5 ≠ 0 by rw [show Try.prog.bytesOf 5 = 1 by kernel_rfl]; decide) A0_2
  obtain ⟨u0_3, x0_3, hc0_3, hf0_3, hr0_3, hg0_3, hl0_3⟩ := arg_ints Try.underlying39 Try.underlying5 (show Try.prog.cellsOf 5 = 1 by kernel_rfl) (show Try.prog.bytesOf 5 ≠ 0 by rw [show Try.prog.bytesOf 5 = 1 by kernel_rfl]; decide) A0_3
  obtain ⟨u0_4, x0_4, hc0_4, hf0_4, hr0_4, hg0_4, hl0_4⟩ := arg_ints Try.underlying39 Try.underlying5 (show Try.prog.cellsOf 5 = 1 by kernel_rfl) (show Try.prog.bytesOf 5 ≠ 0 by rw [show Try.prog.bytesOf 5 = 1 by kernel_rfl]; decide) A0_4
  have walk : Go.AM.Call Go.AM.Fn.T1 4 [.agg #[.int .u8 a0_0, .int .u8 a0_1, u0_2, u0_3, u0_4]] (snap W) (fun v _ => v = .bool true) := K.fitch_law (ok_snap W) (wf_u8 w0_0) (wf_u8 w0_1) ⟨hr0_2, fun x hx => wf_u8 (hg0_2 x hx)⟩ ⟨hr0_3, fun x hx => wf_u8 (hg0_3 x hx)⟩ ⟨hr0_4, fun x hx => wf_u8 (hg0_4 x hx)⟩ hf0_2 hf0_3 hf0_4
  refine (law_calls (Go.AM.Call.sound sound1) (Nat.zero_le _) (canonArgs_cons (canonArg_agg (canons_cons canon_int (canons_cons canon_int (canons_cons hc0_2 (canons_cons hc0_3 (canons_cons hc0_4 (show canons _ [] = some [] from rfl))))))) canonArgs_nil) walk).mono fun e W' ⟨he, bel⟩ => ?_
  subst he
  exact ⟨_, rfl, _, _, _, [], _, [], hW', trodAll_mk1 (shut_bool Try.underlying4 _), (trodAll_cons_mk (Below.trod laidOut (by kernel_rfl) (of_decide_eq_true (by kernel_rfl)) k0 bel lt0) trodAll_mk0), rfl, bel.frame _, fun h => by cases h⟩
theorem over : Rows.trackFitchRow.holds Try.pinned (OpenSpec.ofChange Rows.trackFitchSpec) :=
  OpenClaim.holds_of_wide 4 Try.f4 rfl rfl rfl rfl rfl rfl rfl ⟨rfl, rfl, rfl, rfl, rfl⟩ rfl rfl rfl rfl rfl (by kernel_rfl) Try.func4 (by kernel_rfl)
    (of_decide_eq_true (by kernel_rfl)) (by unfold Func.isWrapper; first | (rw [if_pos (by decide +kernel)]; kernel_rfl) | (rw [if_neg (by decide +kernel)]; exact ⟨rfl, rfl⟩))
    (fun os started H enc _ => lifted os started H enc)
theorem proved : Rows.TrackFitchSaid := over
#print axioms proved
end Go.Proofs.Ytkhhdemhlbaboaa.trackFitch
namespace Go.Proofs.Ytkhhdemhlbaboaa
/-- The row, under a short name, for the claim. -/
theorem trackFitch_holds : Rows.TrackFitchSaid := trackFitch.proved
end Go.Proofs.Ytkhhdemhlbaboaa
