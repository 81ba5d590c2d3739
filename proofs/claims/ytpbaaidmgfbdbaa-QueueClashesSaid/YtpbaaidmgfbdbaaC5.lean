/- QueueClashes for every number. -/
import Derived.Test.YtpbaaidmgfbdbaaC1
import Derived.Test.YtpbaaidmgfbdbaaC2
import Derived.Test.YtpbaaidmgfbdbaaC3
import Derived.Test.YtpbaaidmgfbdbaaC4
namespace Go.AM.C
open Go.AM Go.AM.Fn Go.Proofs Go.RowKit
theorem clashes_calls (n : Int) (w : World) : Calls Try.prog 5 #[.int .i64 n] w fun e w' => e = .returned (.bool true) ∧ Below w.heap.size w w' := by
  by_cases h : n < 2 ∨ 4 < n
  · exact law_calls (args := [.int .i64 n]) (Call.sound sound1) (Nat.zero_le _) (canonArgs_cons canonArg_int canonArgs_nil) (clashes_out h)
  · have : n = 2 ∨ n = 3 ∨ n = 4 := by omega
    rcases this with rfl | rfl | rfl
    · exact known2.calls w (Nat.zero_le _)
    · exact known3.calls w (Nat.zero_le _)
    · exact known4.calls w (Nat.zero_le _)
end Go.AM.C
