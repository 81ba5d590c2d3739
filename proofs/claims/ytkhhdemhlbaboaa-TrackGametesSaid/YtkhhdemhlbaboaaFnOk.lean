/- The tables are the program's. -/
import Derived.Test.YtkhhdemhlbaboaaFn
import Derived.Test.YtkhhdemhlbaboaaProg
namespace Go.AM.Fn
open Go.AM Go.Proofs

theorem ok3 : cFn Try.prog 0 ord 3 = some f3 := by kernel_rfl
theorem ok4 : cFn Try.prog 0 ord 4 = some f4 := by kernel_rfl
theorem ok5 : cFn Try.prog 0 ord 5 = some f5 := by kernel_rfl
theorem ok6 : cFn Try.prog 0 ord 6 = some f6 := by kernel_rfl
theorem ok7 : cFn Try.prog 0 ord 7 = some f7 := by kernel_rfl
theorem ok8 : cFn Try.prog 0 ord 8 = some f8 := by kernel_rfl
theorem ok9 : cFn Try.prog 0 ord 9 = some f9 := by kernel_rfl
theorem ok10 : cFn Try.prog 0 ord 10 = some f10 := by kernel_rfl
theorem ok11 : cFn Try.prog 0 ord 11 = some f11 := by kernel_rfl
theorem ok12 : cFn Try.prog 0 ord 12 = some f12 := by kernel_rfl
theorem ok13 : cFn Try.prog 0 ord 13 = some f13 := by kernel_rfl
theorem ok14 : cFn Try.prog 0 ord 14 = some f14 := by kernel_rfl
theorem ok15 : cFn Try.prog 0 ord 15 = some f15 := by kernel_rfl
theorem ok16 : cFn Try.prog 0 ord 16 = some f16 := by kernel_rfl
theorem ok17 : cFn Try.prog 0 ord 17 = some f17 := by kernel_rfl
theorem ok18 : cFn Try.prog 0 ord 18 = some f18 := by kernel_rfl
theorem ok19 : cFn Try.prog 0 ord 19 = some f19 := by kernel_rfl
theorem ok20 : cFn Try.prog 0 ord 20 = some f20 := by kernel_rfl
theorem ok21 : cFn Try.prog 0 ord 21 = some f21 := by kernel_rfl
theorem ok22 : cFn Try.prog 0 ord 22 = some f22 := by kernel_rfl
theorem ok23 : cFn Try.prog 0 ord 23 = some f23 := by kernel_rfl
theorem ok24 : cFn Try.prog 0 ord 24 = some f24 := by kernel_rfl
theorem ok25 : cFn Try.prog 0 ord 25 = some f25 := by kernel_rfl
theorem ok26 : cFn Try.prog 0 ord 26 = some f26 := by kernel_rfl
theorem ok27 : cFn Try.prog 0 ord 27 = some f27 := by kernel_rfl
theorem ok28 : cFn Try.prog 0 ord 28 = some f28 := by kernel_rfl
theorem ok29 : cFn Try.prog 0 ord 29 = some f29 := by kernel_rfl
theorem ok30 : cFn Try.prog 0 ord 30 = some f30 := by kernel_rfl
theorem ok31 : cFn Try.prog 0 ord 31 = some f31 := by kernel_rfl
theorem ok32 : cFn Try.prog 0 ord 32 = some f32 := by kernel_rfl
theorem ok33 : cFn Try.prog 0 ord 33 = some f33 := by kernel_rfl
theorem ok34 : cFn Try.prog 0 ord 34 = some f34 := by kernel_rfl
theorem ok35 : cFn Try.prog 0 ord 35 = some f35 := by kernel_rfl
theorem ok36 : cFn Try.prog 0 ord 36 = some f36 := by kernel_rfl
theorem ok37 : cFn Try.prog 0 ord 37 = some f37 := by kernel_rfl
theorem ok38 : cFn Try.prog 0 ord 38 = some f38 := by kernel_rfl
theorem ok39 : cFn Try.prog 0 ord 39 = some f39 := by kernel_rfl
theorem ok40 : cFn Try.prog 0 ord 40 = some f40 := by kernel_rfl
theorem ok41 : cFn Try.prog 0 ord 41 = some f41 := by kernel_rfl
theorem ok42 : cFn Try.prog 0 ord 42 = some f42 := by kernel_rfl
theorem ok43 : cFn Try.prog 0 ord 43 = some f43 := by kernel_rfl
theorem ok44 : cFn Try.prog 0 ord 44 = some f44 := by kernel_rfl
theorem ok45 : cFn Try.prog 0 ord 45 = some f45 := by kernel_rfl
theorem ok46 : cFn Try.prog 0 ord 46 = some f46 := by kernel_rfl
theorem ok47 : cFn Try.prog 0 ord 47 = some f47 := by kernel_rfl
theorem ok48 : cFn Try.prog 0 ord 48 = some f48 := by kernel_rfl
theorem ok49 : cFn Try.prog 0 ord 49 = some f49 := by kernel_rfl
theorem ok50 : cFn Try.prog 0 ord 50 = some f50 := by kernel_rfl
theorem ok51 : cFn Try.prog 0 ord 51 = some f51 := by kernel_rfl
theorem ok52 : cFn Try.prog 0 ord 52 = some f52 := by kernel_rfl
theorem ok53 : cFn Try.prog 0 ord 53 = some f53 := by kernel_rfl
theorem ok54 : cFn Try.prog 0 ord 54 = some f54 := by kernel_rfl
theorem ok55 : cFn Try.prog 0 ord 55 = some f55 := by kernel_rfl
theorem ok56 : cFn Try.prog 0 ord 56 = some f56 := by kernel_rfl
theorem ok57 : cFn Try.prog 0 ord 57 = some f57 := by kernel_rfl
theorem ok58 : cFn Try.prog 0 ord 58 = some f58 := by kernel_rfl
theorem ok59 : cFn Try.prog 0 ord 59 = some f59 := by kernel_rfl
theorem ok60 : cFn Try.prog 0 ord 60 = some f60 := by kernel_rfl
theorem ok61 : cFn Try.prog 0 ord 61 = some f61 := by kernel_rfl
theorem ok62 : cFn Try.prog 0 ord 62 = some f62 := by kernel_rfl
theorem ok63 : cFn Try.prog 0 ord 63 = some f63 := by kernel_rfl
theorem ok64 : cFn Try.prog 0 ord 64 = some f64 := by kernel_rfl
theorem ok65 : cFn Try.prog 0 ord 65 = some f65 := by kernel_rfl
theorem ok66 : cFn Try.prog 0 ord 66 = some f66 := by kernel_rfl
theorem ok67 : cFn Try.prog 0 ord 67 = some f67 := by kernel_rfl
theorem ok68 : cFn Try.prog 0 ord 68 = some f68 := by kernel_rfl
theorem ok69 : cFn Try.prog 0 ord 69 = some f69 := by kernel_rfl
theorem ok70 : cFn Try.prog 0 ord 70 = some f70 := by kernel_rfl
theorem ok71 : cFn Try.prog 0 ord 71 = some f71 := by kernel_rfl
theorem ok72 : cFn Try.prog 0 ord 72 = some f72 := by kernel_rfl
theorem ok73 : cFn Try.prog 0 ord 73 = some f73 := by kernel_rfl
theorem ok74 : cFn Try.prog 0 ord 74 = some f74 := by kernel_rfl
theorem ok75 : cFn Try.prog 0 ord 75 = some f75 := by kernel_rfl
theorem T_ok : ∀ f af, T f = some af → cFn Try.prog 0 ord f = some af ∧ af.known = [] := by
  intro f af h
  unfold T at h
  split at h <;> first | (cases h; done) | (simp only [Option.some.injEq] at h; subst h; exact ⟨(by simp only [ok3, ok4, ok5, ok6, ok7, ok8, ok9, ok10, ok11, ok12, ok13, ok14, ok15, ok16, ok17, ok18, ok19, ok20, ok21, ok22, ok23, ok24, ok25, ok26, ok27, ok28, ok29, ok30, ok31, ok32, ok33, ok34, ok35, ok36, ok37, ok38, ok39, ok40, ok41, ok42, ok43, ok44, ok45, ok46, ok47, ok48, ok49, ok50, ok51, ok52, ok53, ok54, ok55, ok56, ok57, ok58, ok59, ok60, ok61, ok62, ok63, ok64, ok65, ok66, ok67, ok68, ok69, ok70, ok71, ok72, ok73, ok74, ok75]), rfl⟩)
theorem mixed : Try.prog.follows .mixedOrders = true := by kernel_rfl
theorem plain {af : AFn} (h : af.known = []) : { af with known := [] } = af := by cases af; simp only at h; subst h; rfl
theorem sound (n : Nat) : CallSound Try.prog 0 (wpCall T n) := table_sound mixed (fun f af h => by rw [plain (T_ok f af h).2]; exact (T_ok f af h).1) (fun f af h a v hm => by rw [(T_ok f af h).2] at hm; cases hm) n
/-- With some calls known. -/
theorem sound_learn {g : FuncId} {l : List (List Value × Value)} (hl : ∀ a v, (a, v) ∈ l → KnownOk Try.prog 0 g a v) (n : Nat) : CallSound Try.prog 0 (wpCall (learn T g l) n) := table_sound mixed (fun f af h => by
    obtain ⟨af0, h0, h1, _⟩ := learn_eq h
    rw [h1, plain (T_ok f af0 h0).2]; exact (T_ok f af0 h0).1) (fun f af h a v hm => by
    obtain ⟨af0, h0, _, h2⟩ := learn_eq h
    rcases h2 with h2 | ⟨rfl, h2⟩
    · rw [h2, (T_ok f af0 h0).2] at hm; cases hm
    · rw [h2] at hm; exact hl a v hm) n
end Go.AM.Fn
