/-
  No cell of these rows narrows 'for every input' (looked for: loops, veiled, ifaces, maps, wideKeys, modest, calm, conditions, laid).
  DERIVED. THE GIVEN ROWS OF THIS SEAT. 3 by the template 'for every input the law returns true; each argument reads behind the call as it read before'; 0 by the template 'total and deterministic' (their statements: YtpbaaidmgfbdbaaTotals.lean).
  GIVEN WITH THE SEED: the statements are not yours to turn. If you find one false, say at which input.
  Laid BY PROGRAM, IN A SANDBOX (cutbox-rows.mjs): the forced cells as the released guide's own fill.sh prints them over the translation 5b9f0a7e102a21b2… (all of the seat's roots in one cut). By AI agents, Wed Nov 11 2026. No macro, syntax, notation, axiom, sorry.
-/
import Derived.Test.YtpbaaidmgfbdbaaChecked
import GoSem.Claim
import GoSem.ClaimJoined
import GoSem.ClaimMapViews
import Derived.JoinedTies
import Derived.KernelRfl
namespace Go.Proofs.Ytpbaaidmgfbdbaa
/- THE CELL 'sum', in the pinned program and in every row, IS THE sha256 OF THE DUMP (.gsa) THAT YtpbaaidmgfbdbaaProg.lean LOADS. Nothing in Lean hashes anything: it is a label: what it is worth is what the hold of that sum in a sandbox is worth. -/
noncomputable def Try.pinned : Pinned := { name := "ytpbaaidmgfbdbaa", sum := "5b9f0a7e102a21b218b0a5e7587e75ffa9cef93e245718294c8bba64eec703aa", checked := Try.checked }
namespace Rows
def none {H : Type} : Left H := { results := [], args := [] }

/-- 'wogglelaw10.QueueSame': WHATEVER THE INPUT: true; the input reads as it did. -/
def queueSameSpec : ChangeSpec := { name := "queueSame", fn := fun _ => fun
  | [d1, d2, d3] => { results := [.lit (.bool true)], args := [d1, d2, d3] }
  | _ => none }
def queueSameRow : OpenClaim := { program := "ytpbaaidmgfbdbaa", sum := "5b9f0a7e102a21b218b0a5e7587e75ffa9cef93e245718294c8bba64eec703aa", func := "woggle/wogglelaw10.QueueSame", spec := "queueSame", unfollowed := true, recurses := true, apart := false }
def QueueSameSaid : Prop := queueSameRow.holds Try.pinned (OpenSpec.ofChange queueSameSpec)

/-- ITS FALSE NEIGHBOUR: 'it returns false'. Refute it at one input. -/
def queueSameWrong : ChangeSpec := { name := "queueSame", fn := fun _ => fun
  | [d1, d2, d3] => { results := [.lit (.bool false)], args := [d1, d2, d3] }
  | _ => none }
def QueueSameWrongFalsely : Prop := queueSameRow.holds Try.pinned (OpenSpec.ofChange queueSameWrong)

/-- 'wogglelaw10.QueueNobody': WHATEVER THE INPUT: true; the input reads as it did. -/
def queueNobodySpec : ChangeSpec := { name := "queueNobody", fn := fun _ => fun
  | [d1, d2] => { results := [.lit (.bool true)], args := [d1, d2] }
  | _ => none }
def queueNobodyRow : OpenClaim := { program := "ytpbaaidmgfbdbaa", sum := "5b9f0a7e102a21b218b0a5e7587e75ffa9cef93e245718294c8bba64eec703aa", func := "woggle/wogglelaw10.QueueNobody", spec := "queueNobody", unfollowed := true, recurses := true, apart := false }
def QueueNobodySaid : Prop := queueNobodyRow.holds Try.pinned (OpenSpec.ofChange queueNobodySpec)

/-- ITS FALSE NEIGHBOUR: 'it returns false'. Refute it at one input. -/
def queueNobodyWrong : ChangeSpec := { name := "queueNobody", fn := fun _ => fun
  | [d1, d2] => { results := [.lit (.bool false)], args := [d1, d2] }
  | _ => none }
def QueueNobodyWrongFalsely : Prop := queueNobodyRow.holds Try.pinned (OpenSpec.ofChange queueNobodyWrong)

/-- 'wogglelaw10.QueueClashes': WHATEVER THE INPUT: true; the input reads as it did. -/
def queueClashesSpec : ChangeSpec := { name := "queueClashes", fn := fun _ => fun
  | [d] => { results := [.lit (.bool true)], args := [d] }
  | _ => none }
def queueClashesRow : OpenClaim := { program := "ytpbaaidmgfbdbaa", sum := "5b9f0a7e102a21b218b0a5e7587e75ffa9cef93e245718294c8bba64eec703aa", func := "woggle/wogglelaw10.QueueClashes", spec := "queueClashes", unfollowed := true, recurses := true, apart := false }
def QueueClashesSaid : Prop := queueClashesRow.holds Try.pinned (OpenSpec.ofChange queueClashesSpec)

/-- ITS FALSE NEIGHBOUR: 'it returns false'. Refute it at one input. -/
def queueClashesWrong : ChangeSpec := { name := "queueClashes", fn := fun _ => fun
  | [d] => { results := [.lit (.bool false)], args := [d] }
  | _ => none }
def QueueClashesWrongFalsely : Prop := queueClashesRow.holds Try.pinned (OpenSpec.ofChange queueClashesWrong)

/- THE SECOND FORM. 'bulk': how many values and letters a reading holds, each counted each time it is reached (what is shared counts as often as it is met; a slice's spare places count too). A statement '..UptoSaid' is the law's where the arguments, and the package variables that the reading takes, are together of bulk at most 1048576: NARROWER than '..Said'. Prove '..Said' where nothing that the law and all that it calls make is longer than what came in: it says more and counts as full. Else prove '..UptoSaid'. A law counts once. -/
mutual
def uptoBulk {H : Type} : DataW H → Nat
  | .lit (.string bytes) => bytes.length + 1
  | .lit _ => 1
  | .nil => 1
  | .ptr d => uptoBulk d + 1
  | .slice elems spare => uptoBulkAll elems + uptoBulkAll spare + 1
  | .agg parts => uptoBulkAll parts + 1
  | .iface _ d => uptoBulk d + 1
  | .map entries => uptoBulkEntries entries + 1
  | .held _ => 1
def uptoBulkAll {H : Type} : List (DataW H) → Nat
  | [] => 0
  | d :: r => uptoBulk d + uptoBulkAll r
def uptoBulkEntries {H : Type} : List (Lit × DataW H) → Nat
  | [] => 0
  | x :: r => uptoBulkEntry x + uptoBulkEntries r
def uptoBulkEntry {H : Type} : Lit × DataW H → Nat
  | (.string bytes, d) => bytes.length + uptoBulk d + 1
  | (_, d) => uptoBulk d + 1
 end
def uptoSmall : (H : Type) → List (DataW H) → Bool := fun _ ds => decide (uptoBulkAll ds ≤ 1048576)
def OpenSpec.upto (s : _root_.Go.ChangeSpec) : _root_.Go.OpenSpec := { _root_.Go.OpenSpec.ofChange s with cond := some uptoSmall }

/-- 'wogglelaw10.QueueSame', WHERE WHAT IT READS IS OF BULK AT MOST 1048576: true; the input reads as it did. -/
def queueSameUptoRow : OpenClaim := { program := "ytpbaaidmgfbdbaa", sum := "5b9f0a7e102a21b218b0a5e7587e75ffa9cef93e245718294c8bba64eec703aa", func := "woggle/wogglelaw10.QueueSame", spec := "queueSame", unfollowed := true, recurses := true, apart := false, narrowed := true }
def QueueSameUptoSaid : Prop := queueSameUptoRow.holds Try.pinned (OpenSpec.upto queueSameSpec)

/-- 'wogglelaw10.QueueNobody', WHERE WHAT IT READS IS OF BULK AT MOST 1048576: true; the input reads as it did. -/
def queueNobodyUptoRow : OpenClaim := { program := "ytpbaaidmgfbdbaa", sum := "5b9f0a7e102a21b218b0a5e7587e75ffa9cef93e245718294c8bba64eec703aa", func := "woggle/wogglelaw10.QueueNobody", spec := "queueNobody", unfollowed := true, recurses := true, apart := false, narrowed := true }
def QueueNobodyUptoSaid : Prop := queueNobodyUptoRow.holds Try.pinned (OpenSpec.upto queueNobodySpec)

/-- 'wogglelaw10.QueueClashes', WHERE WHAT IT READS IS OF BULK AT MOST 1048576: true; the input reads as it did. -/
def queueClashesUptoRow : OpenClaim := { program := "ytpbaaidmgfbdbaa", sum := "5b9f0a7e102a21b218b0a5e7587e75ffa9cef93e245718294c8bba64eec703aa", func := "woggle/wogglelaw10.QueueClashes", spec := "queueClashes", unfollowed := true, recurses := true, apart := false, narrowed := true }
def QueueClashesUptoSaid : Prop := queueClashesUptoRow.holds Try.pinned (OpenSpec.upto queueClashesSpec)

end Rows
end Go.Proofs.Ytpbaaidmgfbdbaa
