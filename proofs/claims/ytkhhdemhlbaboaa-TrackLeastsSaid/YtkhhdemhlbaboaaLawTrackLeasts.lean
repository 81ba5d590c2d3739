/- The law TrackLeasts holds: for every input it returns true, and the input reads as before. No conditions. -/
import Derived.Test.YtkhhdemhlbaboaaRows
import Derived.Test.YtkhhdemhlbaboaaFnOk
import Derived.Test.YtkhhdemhlbaboaaAM16
import Derived.Test.YtkhhdemhlbaboaaLLeasts
import Derived.WalkKit
import Derived.ProofKit
import Derived.OpenShut
import Derived.ShutString
import Derived.ChangeOld
import Derived.Below
import Derived.Carry
import Derived.SizedLaws
namespace Go.Proofs.Ytkhhdemhlbaboaa.trackLeasts
open Go.ChangeShapes Go.WideShapes Go.ChangeAt Go.RowKit Go.AM Go.AM.Fn
set_option linter.unusedVariables false
set_option linter.unusedSimpArgs false
theorem own : ownKnob Try.prog.godebug = none := by kernel_rfl
theorem laidOut : laidOutB Try.prog = true := by kernel_rfl
set_option maxRecDepth 100000 in
theorem lifted (os : Os) (started : os.Started) (H : Type) (enc : TypeId × Value → H) :
    ReturnsInHanded {} Try.checked os 3 .any (Rows.trackLeastsSpec.pre6 enc Try.prog Try.f3 Rows.trackLeastsRow.domain false) (Rows.trackLeastsSpec.post enc Try.prog Try.f3 false true false false) := by
  refine returnsInHanded_of_change_sized (C := Try.checked) own started (by kernel_rfl) Try.func3
    (ChangeSpec.witness6 (enc := enc) (C := Try.checked) false ⟨#[], #[.agg #[.int .i64 0, .slice none 0 0], .slice none 0 0, .slice none 0 0], []⟩ 8 (by kernel_rfl) (by kernel_rfl) (by kernel_rfl) (by kernel_rfl)) ?_
  intro W base args ds gs before hval0 hW hcnd hsz0 _
  have hsz : (DataW.weightsEach Try.prog (Try.f3.params.toList ++ Rows.trackLeastsSpec.plain.varTypes Try.prog) (ds ++ gs)).all (· ≤ reachBytes) = true := hsz0
  have hval : ∀ (j : Nat) t v, Try.f3.params[j]? = some t → args[j]? = some v → Value.okWide Try.prog W .any base t v := hval0
  have hW' := hW
  obtain ⟨p, q, hA0, hV, rfl, hfz, hnd⟩ := hW
  have hA : DataW.TrodAll enc Try.prog W 0 (fun _ => true) true Try.f3.params.toList args.toList ds p := hA0
  rw [Try.params3] at hA hval hsz
  obtain ⟨v0, vs0, d0, ds0, p0, q0, hargs, rfl, rfl, h0, r0⟩ := trodAll_cons hA
  obtain ⟨v1, vs1, d1, ds1, p1, q1, rfl, rfl, rfl, h1, r1⟩ := trodAll_cons r0
  obtain ⟨v2, vs2, d2, ds2, p2, q2, rfl, rfl, rfl, h2, r2⟩ := trodAll_cons r1
  obtain ⟨rfl, rfl, rfl⟩ := trodAll_nil r2
  obtain rfl : args = #[v0, v1, v2] := by cases args; simp_all
  obtain ⟨rfl, rfl⟩ := trodVars_none hV
  have k0 := h0
  have lt0 : ∀ x ∈ p0, x.block < W.heap.size := by obtain ⟨m, hm⟩ := k0; exact DataW.trod_lt m _ _ _ hm
  have B0 : Arg Try.prog W 24 v0.cells.toList := by obtain ⟨m, hm⟩ := k0; exact ⟨_, _, m, _, hm, fun n hn => of_decide_eq_true (List.all_eq_true.1 hsz _ (DataW.weights_mem_each (j := 0) rfl rfl n hn))⟩
  have k1 := h1
  have lt1 : ∀ x ∈ p1, x.block < W.heap.size := by obtain ⟨m, hm⟩ := k1; exact DataW.trod_lt m _ _ _ hm
  have B1 : Arg Try.prog W 25 v1.cells.toList := by obtain ⟨m, hm⟩ := k1; exact ⟨_, _, m, _, hm, fun n hn => of_decide_eq_true (List.all_eq_true.1 hsz _ (DataW.weights_mem_each (j := 1) rfl rfl n hn))⟩
  have k2 := h2
  have lt2 : ∀ x ∈ p2, x.block < W.heap.size := by obtain ⟨m, hm⟩ := k2; exact DataW.trod_lt m _ _ _ hm
  have B2 : Arg Try.prog W 26 v2.cells.toList := by obtain ⟨m, hm⟩ := k2; exact ⟨_, _, m, _, hm, fun n hn => of_decide_eq_true (List.all_eq_true.1 hsz _ (DataW.weights_mem_each (j := 2) rfl rfl n hn))⟩
  obtain ⟨cs0, rfl, sz0⟩ := okWide_struct Try.underlying24 (hval 0 24 v0 rfl rfl)
  have s0 := arg_struct Try.underlying24 (show Arg Try.prog W 24 cs0.toList from B0)
  obtain ⟨c0_0, c0_1, hcs0⟩ := len_two (s0.1.trans (show Try.prog.cellsOf 24 = 2 by kernel_rfl))
  obtain rfl : cs0 = [c0_0, c0_1].toArray := by rw [← hcs0]
  clear hcs0
  have A0_0 : Arg Try.prog W 3 [c0_0] := by
    have := s0.2 0 _ rfl
    simpa [(show Try.prog.cellsOf 3 = 1 by kernel_rfl)] using this
  have A0_1 : Arg Try.prog W 22 [c0_1] := by
    have := s0.2 1 _ rfl
    simpa [(show Try.prog.cellsOf 22 = 1 by kernel_rfl)] using this
  clear s0
  obtain ⟨a0_0, e0_0, w0_0⟩ := arg_int Try.underlying3 A0_0; simp only [List.cons.injEq, and_true] at e0_0; subst e0_0
  obtain ⟨u0_1, x0_1, hc0_1, hf0_1, hr0_1, hg0_1, hl0_1⟩ := arg_rows (α := Int × Int) (fun p => [.int .i64 p.1, .int .i64 p.2]) (fun p => (Lit.int .i64 p.1).wf = true ∧ (Lit.int .i64 p.2).wf = true) Try.underlying22 (show Try.prog.cellsOf 55 = 2 by kernel_rfl) (by decide) (show Try.prog.bytesOf 55 ≠ 0 by rw [show Try.prog.bytesOf 55 = 16 by kernel_rfl]; decide) (fun _ => rfl) (fun cs hcs => by
    have s := arg_struct Try.underlying55 hcs
    obtain ⟨c0, c1, rfl⟩ := len_two (s.1.trans (show Try.prog.cellsOf 55 = 2 by kernel_rfl))
    have b0 : Arg Try.prog W 3 [c0] := by
      have := s.2 0 _ rfl
      simpa [(show Try.prog.cellsOf 3 = 1 by kernel_rfl)] using this
    obtain ⟨y0, g0, z0⟩ := arg_int Try.underlying3 b0; simp only [List.cons.injEq, and_true] at g0; subst g0
    have b1 : Arg Try.prog W 3 [c1] := by
      have := s.2 1 _ rfl
      simpa [(show Try.prog.cellsOf 3 = 1 by kernel_rfl)] using this
    obtain ⟨y1, g1, z1⟩ := arg_int Try.underlying3 b1; simp only [List.cons.injEq, and_true] at g1; subst g1
    exact ⟨(y0, y1), by simp [canons, canon_int], z0, z1⟩) A0_1
  obtain ⟨ad1, len1, cap1, rfl⟩ := okWide_slice Try.underlying25 (hval 1 25 v1 rfl rfl)
  have A1 : Arg Try.prog W 25 [.slice ad1 len1 cap1] := B1
  obtain ⟨u1, x1, hc1, hf1, hr1, hg1, hl1, hm1⟩ := arg_mat Try.underlying25 Try.underlying26 Try.underlying3 (show Try.prog.cellsOf 26 = 1 by kernel_rfl) (show Try.prog.bytesOf 26 ≠ 0 by rw [show Try.prog.bytesOf 26 = 24 by kernel_rfl]; decide) (show Try.prog.cellsOf 3 = 1 by kernel_rfl) (show Try.prog.bytesOf 3 ≠ 0 by rw [show Try.prog.bytesOf 3 = 8 by kernel_rfl]; decide) A1
  obtain ⟨ad2, len2, cap2, rfl⟩ := okWide_slice Try.underlying26 (hval 2 26 v2 rfl rfl)
  have A2 : Arg Try.prog W 26 [.slice ad2 len2 cap2] := B2
  obtain ⟨u2, x2, hc2, hf2, hr2, hg2, hl2⟩ := arg_ints Try.underlying26 Try.underlying3 (show Try.prog.cellsOf 3 = 1 by kernel_rfl) (show Try.prog.bytesOf 3 ≠ 0 by rw [show Try.prog.bytesOf 3 = 8 by kernel_rfl]; decide) A2
  have walk : Go.AM.Call Go.AM.Fn.T1 3 [.agg #[.int .i64 a0_0, u0_1], u1, u2] (snap W) (fun v _ => v = .bool true) := K.leasts_law (ok_snap W) hr0_1 hf0_1 hr1 hr2 hf2
  refine (law_calls (Go.AM.Call.sound sound1) (Nat.zero_le _) (canonArgs_cons (canonArg_agg (canons_cons canon_int (canons_cons hc0_1 (show canons _ [] = some [] from rfl)))) (canonArgs_cons (canonArg_slice.trans hc1) (canonArgs_cons (canonArg_slice.trans hc2) canonArgs_nil))) walk).mono fun e W' ⟨he, bel⟩ => ?_
  subst he
  exact ⟨_, rfl, _, _, _, [], _, [], hW', trodAll_mk1 (shut_bool Try.underlying4 _), (trodAll_cons_mk (Below.trod laidOut (by kernel_rfl) (of_decide_eq_true (by kernel_rfl)) k0 bel lt0) (trodAll_cons_mk (Below.trod laidOut (by kernel_rfl) (of_decide_eq_true (by kernel_rfl)) k1 bel lt1) (trodAll_cons_mk (Below.trod laidOut (by kernel_rfl) (of_decide_eq_true (by kernel_rfl)) k2 bel lt2) trodAll_mk0))), rfl, bel.frame _, fun h => by cases h⟩
theorem over : Rows.trackLeastsRow.holds Try.pinned (OpenSpec.ofChange Rows.trackLeastsSpec) :=
  OpenClaim.holds_of_wide 3 Try.f3 rfl rfl rfl rfl rfl rfl rfl ⟨rfl, rfl, rfl, rfl, rfl⟩ rfl rfl rfl rfl rfl (by kernel_rfl) Try.func3 (by kernel_rfl)
    (of_decide_eq_true (by kernel_rfl)) (by unfold Func.isWrapper; first | (rw [if_pos (by decide +kernel)]; kernel_rfl) | (rw [if_neg (by decide +kernel)]; exact ⟨rfl, rfl⟩))
    (fun os started H enc _ => lifted os started H enc)
theorem proved : Rows.TrackLeastsSaid := over
#print axioms proved
end Go.Proofs.Ytkhhdemhlbaboaa.trackLeasts
namespace Go.Proofs.Ytkhhdemhlbaboaa
/-- The row, under a short name, for the claim. -/
theorem trackLeasts_holds : Rows.TrackLeastsSaid := trackLeasts.proved
end Go.Proofs.Ytkhhdemhlbaboaa
