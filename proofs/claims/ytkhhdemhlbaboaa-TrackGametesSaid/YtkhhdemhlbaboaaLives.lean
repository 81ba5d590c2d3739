/- What 'lives' returns is known, by computation. -/
import Derived.Test.YtkhhdemhlbaboaaAM16
import Derived.Test.YtkhhdemhlbaboaaFnOk
set_option linter.unusedVariables false
namespace Go.AM.Fn
open Go.AM Go.Proofs

theorem nil_exact (G : Gh) (args' : List Value) (h : VRels G [] args') : args' = [] := by cases h; rfl
theorem true_exact (G : Gh) (v' : Value) (h : VRel G (.bool true) v') : v' = .bool true := by cases h; rfl

theorem lives_run : yields (.bool true) (runCall T 60 16 [] (bare 0)) = true := by kernel_rfl
theorem lives_known : KnownOk Try.prog 0 16 [] (.bool true) := known_of_run sound lives_run rfl true_exact rfl nil_exact

/-- The table in which 'lives' is known. -/
def T1 : FuncId → Option AFn := learn T 16 [([], .bool true)]
theorem sound1 (n : Nat) : CallSound Try.prog 0 (wpCall T1 n) := sound_learn (fun a v h => by
  simp only [List.mem_singleton, Prod.mk.injEq] at h
  obtain ⟨rfl, rfl⟩ := h
  exact lives_known) n
theorem lives_call {h : Heap} {R : Value → Heap → Prop} (hr : R (.bool true) h) : Call T1 16 [] h R := Call.known (T := T1) (v := .bool true) rfl (by simp) hr

end Go.AM.Fn
