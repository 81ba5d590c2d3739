/- QueueClashes of 2, by computation. -/
import Derived.Test.YtpbaaidmgfbdbaaLives
namespace Go.AM.C
open Go.AM Go.AM.Fn Go.Proofs
theorem run2 : yields (.bool true) (runCall T1 40 5 [.int .i64 2] (bare 0)) = true := by kernel_rfl
theorem known2 : KnownOk Try.prog 0 5 [.int .i64 2] (.bool true) := known_of_run sound1 run2 rfl true_exact rfl (fun G a h => by
  cases h with
  | cons h1 h2 => cases h1; cases h2; rfl)
end Go.AM.C
