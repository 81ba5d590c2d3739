/-
  No cell of these rows narrows 'for every input' (looked for: loops, veiled, ifaces, maps, wideKeys, modest, calm, conditions, laid).
  DERIVED. THE GIVEN ROWS OF THIS SEAT. 7 by the template 'for every input the law returns true; each argument reads behind the call as it read before'; 0 by the template 'total and deterministic' (their statements: YtkhhdemhlbaboaaTotals.lean).
  GIVEN WITH THE SEED: the statements are not yours to turn. If you find one false, say at which input.
  Laid BY PROGRAM, IN A SANDBOX (cutbox-rows.mjs): the forced cells as the released guide's own fill.sh prints them over the translation b1e2159a7f8df64a… (all of the seat's roots in one cut). By AI agents, Wed Nov 11 2026. No macro, syntax, notation, axiom, sorry.
-/
import Derived.Test.YtkhhdemhlbaboaaChecked
import GoSem.Claim
import GoSem.ClaimJoined
import GoSem.ClaimMapViews
import Derived.JoinedTies
import Derived.KernelRfl
namespace Go.Proofs.Ytkhhdemhlbaboaa
/- THE CELL 'sum', in the pinned program and in every row, IS THE sha256 OF THE DUMP (.gsa) THAT YtkhhdemhlbaboaaProg.lean LOADS. Nothing in Lean hashes anything: it is a label: what it is worth is what the hold of that sum in a sandbox is worth. -/
noncomputable def Try.pinned : Pinned := { name := "ytkhhdemhlbaboaa", sum := "b1e2159a7f8df64a721968f20dbc7bbe9e3f636b93191f9791d4513b78acd3ca", checked := Try.checked }
namespace Rows
def none {H : Type} : Left H := { results := [], args := [] }

/-- 'wogglelaw02.TrackLeasts': WHATEVER THE INPUT: true; the input reads as it did. -/
def trackLeastsSpec : ChangeSpec := { name := "trackLeasts", fn := fun _ => fun
  | [d1, d2, d3] => { results := [.lit (.bool true)], args := [d1, d2, d3] }
  | _ => none }
def trackLeastsRow : OpenClaim := { program := "ytkhhdemhlbaboaa", sum := "b1e2159a7f8df64a721968f20dbc7bbe9e3f636b93191f9791d4513b78acd3ca", func := "woggle/wogglelaw02.TrackLeasts", spec := "trackLeasts", unfollowed := true, recurses := true, apart := false }
def TrackLeastsSaid : Prop := trackLeastsRow.holds Try.pinned (OpenSpec.ofChange trackLeastsSpec)

/-- ITS FALSE NEIGHBOUR: 'it returns false'. Refute it at one input. -/
def trackLeastsWrong : ChangeSpec := { name := "trackLeasts", fn := fun _ => fun
  | [d1, d2, d3] => { results := [.lit (.bool false)], args := [d1, d2, d3] }
  | _ => none }
def TrackLeastsWrongFalsely : Prop := trackLeastsRow.holds Try.pinned (OpenSpec.ofChange trackLeastsWrong)

/-- 'wogglelaw02.TrackFitch': WHATEVER THE INPUT: true; the input reads as it did. -/
def trackFitchSpec : ChangeSpec := { name := "trackFitch", fn := fun _ => fun
  | [d] => { results := [.lit (.bool true)], args := [d] }
  | _ => none }
def trackFitchRow : OpenClaim := { program := "ytkhhdemhlbaboaa", sum := "b1e2159a7f8df64a721968f20dbc7bbe9e3f636b93191f9791d4513b78acd3ca", func := "woggle/wogglelaw02.TrackFitch", spec := "trackFitch", unfollowed := true, recurses := true, apart := false }
def TrackFitchSaid : Prop := trackFitchRow.holds Try.pinned (OpenSpec.ofChange trackFitchSpec)

/-- ITS FALSE NEIGHBOUR: 'it returns false'. Refute it at one input. -/
def trackFitchWrong : ChangeSpec := { name := "trackFitch", fn := fun _ => fun
  | [d] => { results := [.lit (.bool false)], args := [d] }
  | _ => none }
def TrackFitchWrongFalsely : Prop := trackFitchRow.holds Try.pinned (OpenSpec.ofChange trackFitchWrong)

/-- 'wogglelaw02.TrackRoot': WHATEVER THE INPUT: true; the input reads as it did. -/
def trackRootSpec : ChangeSpec := { name := "trackRoot", fn := fun _ => fun
  | [d] => { results := [.lit (.bool true)], args := [d] }
  | _ => none }
def trackRootRow : OpenClaim := { program := "ytkhhdemhlbaboaa", sum := "b1e2159a7f8df64a721968f20dbc7bbe9e3f636b93191f9791d4513b78acd3ca", func := "woggle/wogglelaw02.TrackRoot", spec := "trackRoot", unfollowed := true, recurses := true, apart := false }
def TrackRootSaid : Prop := trackRootRow.holds Try.pinned (OpenSpec.ofChange trackRootSpec)

/-- ITS FALSE NEIGHBOUR: 'it returns false'. Refute it at one input. -/
def trackRootWrong : ChangeSpec := { name := "trackRoot", fn := fun _ => fun
  | [d] => { results := [.lit (.bool false)], args := [d] }
  | _ => none }
def TrackRootWrongFalsely : Prop := trackRootRow.holds Try.pinned (OpenSpec.ofChange trackRootWrong)

/-- 'wogglelaw02.TrackRenamed': WHATEVER THE INPUT: true; the input reads as it did. -/
def trackRenamedSpec : ChangeSpec := { name := "trackRenamed", fn := fun _ => fun
  | [d1, d2] => { results := [.lit (.bool true)], args := [d1, d2] }
  | _ => none }
def trackRenamedRow : OpenClaim := { program := "ytkhhdemhlbaboaa", sum := "b1e2159a7f8df64a721968f20dbc7bbe9e3f636b93191f9791d4513b78acd3ca", func := "woggle/wogglelaw02.TrackRenamed", spec := "trackRenamed", unfollowed := true, recurses := true, apart := false }
def TrackRenamedSaid : Prop := trackRenamedRow.holds Try.pinned (OpenSpec.ofChange trackRenamedSpec)

/-- ITS FALSE NEIGHBOUR: 'it returns false'. Refute it at one input. -/
def trackRenamedWrong : ChangeSpec := { name := "trackRenamed", fn := fun _ => fun
  | [d1, d2] => { results := [.lit (.bool false)], args := [d1, d2] }
  | _ => none }
def TrackRenamedWrongFalsely : Prop := trackRenamedRow.holds Try.pinned (OpenSpec.ofChange trackRenamedWrong)

/-- 'wogglelaw02.TrackGametes': WHATEVER THE INPUT: true; the input reads as it did. -/
def trackGametesSpec : ChangeSpec := { name := "trackGametes", fn := fun _ => fun
  | [d1, d2] => { results := [.lit (.bool true)], args := [d1, d2] }
  | _ => none }
def trackGametesRow : OpenClaim := { program := "ytkhhdemhlbaboaa", sum := "b1e2159a7f8df64a721968f20dbc7bbe9e3f636b93191f9791d4513b78acd3ca", func := "woggle/wogglelaw02.TrackGametes", spec := "trackGametes", unfollowed := true, recurses := true, apart := false }
def TrackGametesSaid : Prop := trackGametesRow.holds Try.pinned (OpenSpec.ofChange trackGametesSpec)

/-- ITS FALSE NEIGHBOUR: 'it returns false'. Refute it at one input. -/
def trackGametesWrong : ChangeSpec := { name := "trackGametes", fn := fun _ => fun
  | [d1, d2] => { results := [.lit (.bool false)], args := [d1, d2] }
  | _ => none }
def TrackGametesWrongFalsely : Prop := trackGametesRow.holds Try.pinned (OpenSpec.ofChange trackGametesWrong)

/-- 'wogglelaw02.TrackBests': WHATEVER THE INPUT: true; the input reads as it did. -/
def trackBestsSpec : ChangeSpec := { name := "trackBests", fn := fun _ => fun
  | [d] => { results := [.lit (.bool true)], args := [d] }
  | _ => none }
def trackBestsRow : OpenClaim := { program := "ytkhhdemhlbaboaa", sum := "b1e2159a7f8df64a721968f20dbc7bbe9e3f636b93191f9791d4513b78acd3ca", func := "woggle/wogglelaw02.TrackBests", spec := "trackBests", unfollowed := true, recurses := true, apart := false }
def TrackBestsSaid : Prop := trackBestsRow.holds Try.pinned (OpenSpec.ofChange trackBestsSpec)

/-- ITS FALSE NEIGHBOUR: 'it returns false'. Refute it at one input. -/
def trackBestsWrong : ChangeSpec := { name := "trackBests", fn := fun _ => fun
  | [d] => { results := [.lit (.bool false)], args := [d] }
  | _ => none }
def TrackBestsWrongFalsely : Prop := trackBestsRow.holds Try.pinned (OpenSpec.ofChange trackBestsWrong)

/-- 'wogglelaw02.TrackTables': WHATEVER THE INPUT: true; the input reads as it did. -/
def trackTablesSpec : ChangeSpec := { name := "trackTables", fn := fun _ => fun
  | [d1, d2, d3] => { results := [.lit (.bool true)], args := [d1, d2, d3] }
  | _ => none }
def trackTablesRow : OpenClaim := { program := "ytkhhdemhlbaboaa", sum := "b1e2159a7f8df64a721968f20dbc7bbe9e3f636b93191f9791d4513b78acd3ca", func := "woggle/wogglelaw02.TrackTables", spec := "trackTables", unfollowed := true, recurses := true, apart := false }
def TrackTablesSaid : Prop := trackTablesRow.holds Try.pinned (OpenSpec.ofChange trackTablesSpec)

/-- ITS FALSE NEIGHBOUR: 'it returns false'. Refute it at one input. -/
def trackTablesWrong : ChangeSpec := { name := "trackTables", fn := fun _ => fun
  | [d1, d2, d3] => { results := [.lit (.bool false)], args := [d1, d2, d3] }
  | _ => none }
def TrackTablesWrongFalsely : Prop := trackTablesRow.holds Try.pinned (OpenSpec.ofChange trackTablesWrong)

/- THE SECOND FORM. 'bulk': how many values and letters a reading holds, each counted each time it is reached (what is shared counts as often as it is met; a slice's spare places count too). A statement '..UptoSaid' is the law's where the arguments, and the package variables that the reading takes, are together of bulk at most 1048576: NARROWER than '..Said'. Prove '..Said' where nothing that the law and all that it calls make is longer than what came in: it says more and counts as full. Else prove '..UptoSaid'. A law counts once. -/
mutual
def uptoBulk {H : Type} : DataW H → Nat
  | .lit (.string bytes) => bytes.length + 1
  | .lit _ => 1
  | .nil => 1
  | .ptr d => uptoBulk d + 1
  | .slice elems spare => uptoBulkAll elems + uptoBulkAll spare + 1
  | .agg parts => uptoBulkAll parts + 1
  | .iface _ d => uptoBulk d + 1
  | .map entries => uptoBulkEntries entries + 1
  | .held _ => 1
def uptoBulkAll {H : Type} : List (DataW H) → Nat
  | [] => 0
  | d :: r => uptoBulk d + uptoBulkAll r
def uptoBulkEntries {H : Type} : List (Lit × DataW H) → Nat
  | [] => 0
  | x :: r => uptoBulkEntry x + uptoBulkEntries r
def uptoBulkEntry {H : Type} : Lit × DataW H → Nat
  | (.string bytes, d) => bytes.length + uptoBulk d + 1
  | (_, d) => uptoBulk d + 1
 end
def uptoSmall : (H : Type) → List (DataW H) → Bool := fun _ ds => decide (uptoBulkAll ds ≤ 1048576)
def OpenSpec.upto (s : _root_.Go.ChangeSpec) : _root_.Go.OpenSpec := { _root_.Go.OpenSpec.ofChange s with cond := some uptoSmall }

/-- 'wogglelaw02.TrackLeasts', WHERE WHAT IT READS IS OF BULK AT MOST 1048576: true; the input reads as it did. -/
def trackLeastsUptoRow : OpenClaim := { program := "ytkhhdemhlbaboaa", sum := "b1e2159a7f8df64a721968f20dbc7bbe9e3f636b93191f9791d4513b78acd3ca", func := "woggle/wogglelaw02.TrackLeasts", spec := "trackLeasts", unfollowed := true, recurses := true, apart := false, narrowed := true }
def TrackLeastsUptoSaid : Prop := trackLeastsUptoRow.holds Try.pinned (OpenSpec.upto trackLeastsSpec)

/-- 'wogglelaw02.TrackFitch', WHERE WHAT IT READS IS OF BULK AT MOST 1048576: true; the input reads as it did. -/
def trackFitchUptoRow : OpenClaim := { program := "ytkhhdemhlbaboaa", sum := "b1e2159a7f8df64a721968f20dbc7bbe9e3f636b93191f9791d4513b78acd3ca", func := "woggle/wogglelaw02.TrackFitch", spec := "trackFitch", unfollowed := true, recurses := true, apart := false, narrowed := true }
def TrackFitchUptoSaid : Prop := trackFitchUptoRow.holds Try.pinned (OpenSpec.upto trackFitchSpec)

/-- 'wogglelaw02.TrackRoot', WHERE WHAT IT READS IS OF BULK AT MOST 1048576: true; the input reads as it did. -/
def trackRootUptoRow : OpenClaim := { program := "ytkhhdemhlbaboaa", sum := "b1e2159a7f8df64a721968f20dbc7bbe9e3f636b93191f9791d4513b78acd3ca", func := "woggle/wogglelaw02.TrackRoot", spec := "trackRoot", unfollowed := true, recurses := true, apart := false, narrowed := true }
def TrackRootUptoSaid : Prop := trackRootUptoRow.holds Try.pinned (OpenSpec.upto trackRootSpec)

/-- 'wogglelaw02.TrackRenamed', WHERE WHAT IT READS IS OF BULK AT MOST 1048576: true; the input reads as it did. -/
def trackRenamedUptoRow : OpenClaim := { program := "ytkhhdemhlbaboaa", sum := "b1e2159a7f8df64a721968f20dbc7bbe9e3f636b93191f9791d4513b78acd3ca", func := "woggle/wogglelaw02.TrackRenamed", spec := "trackRenamed", unfollowed := true, recurses := true, apart := false, narrowed := true }
def TrackRenamedUptoSaid : Prop := trackRenamedUptoRow.holds Try.pinned (OpenSpec.upto trackRenamedSpec)

/-- 'wogglelaw02.TrackGametes', WHERE WHAT IT READS IS OF BULK AT MOST 1048576: true; the input reads as it did. -/
def trackGametesUptoRow : OpenClaim := { program := "ytkhhdemhlbaboaa", sum := "b1e2159a7f8df64a721968f20dbc7bbe9e3f636b93191f9791d4513b78acd3ca", func := "woggle/wogglelaw02.TrackGametes", spec := "trackGametes", unfollowed := true, recurses := true, apart := false, narrowed := true }
def TrackGametesUptoSaid : Prop := trackGametesUptoRow.holds Try.pinned (OpenSpec.upto trackGametesSpec)

/-- 'wogglelaw02.TrackBests', WHERE WHAT IT READS IS OF BULK AT MOST 1048576: true; the input reads as it did. -/
def trackBestsUptoRow : OpenClaim := { program := "ytkhhdemhlbaboaa", sum := "b1e2159a7f8df64a721968f20dbc7bbe9e3f636b93191f9791d4513b78acd3ca", func := "woggle/wogglelaw02.TrackBests", spec := "trackBests", unfollowed := true, recurses := true, apart := false, narrowed := true }
def TrackBestsUptoSaid : Prop := trackBestsUptoRow.holds Try.pinned (OpenSpec.upto trackBestsSpec)

/-- 'wogglelaw02.TrackTables', WHERE WHAT IT READS IS OF BULK AT MOST 1048576: true; the input reads as it did. -/
def trackTablesUptoRow : OpenClaim := { program := "ytkhhdemhlbaboaa", sum := "b1e2159a7f8df64a721968f20dbc7bbe9e3f636b93191f9791d4513b78acd3ca", func := "woggle/wogglelaw02.TrackTables", spec := "trackTables", unfollowed := true, recurses := true, apart := false, narrowed := true }
def TrackTablesUptoSaid : Prop := trackTablesUptoRow.holds Try.pinned (OpenSpec.upto trackTablesSpec)

end Rows
end Go.Proofs.Ytkhhdemhlbaboaa
