/-
  No cell of these rows narrows 'for every input' (looked for: loops, veiled, ifaces, maps, wideKeys, modest, calm, conditions, laid).
  DERIVED. THE GIVEN ROWS OF THIS SEAT. 12 by the template 'for every input the law returns true; each argument reads behind the call as it read before'; 0 by the template 'total and deterministic' (their statements: YtiklpaemkeadjaaTotals.lean).
  GIVEN WITH THE SEED: the statements are not yours to turn. If you find one false, say at which input.
  Laid BY PROGRAM, IN A SANDBOX (cutbox-rows.mjs): the forced cells as the released guide's own fill.sh prints them over the translation 8f8aeaae4aab6167… (all of the seat's roots in one cut). By AI agents, Wed Nov 11 2026. No macro, syntax, notation, axiom, sorry.
-/
import Derived.Test.YtiklpaemkeadjaaChecked
import GoSem.Claim
import GoSem.ClaimJoined
import GoSem.ClaimMapViews
import Derived.JoinedTies
import Derived.KernelRfl
namespace Go.Proofs.Ytiklpaemkeadjaa
/- THE CELL 'sum', in the pinned program and in every row, IS THE sha256 OF THE DUMP (.gsa) THAT YtiklpaemkeadjaaProg.lean LOADS. Nothing in Lean hashes anything: it is a label: what it is worth is what the hold of that sum in a sandbox is worth. -/
noncomputable def Try.pinned : Pinned := { name := "ytiklpaemkeadjaa", sum := "8f8aeaae4aab6167610cc9fbd4ea4de684cc1a5136626b8ab8865a8c5e8b4720", checked := Try.checked }
namespace Rows
def none {H : Type} : Left H := { results := [], args := [] }

/-- 'fasciclelaw13.VisibleReads': WHATEVER THE INPUT: true; the input reads as it did. -/
def visibleReadsSpec : ChangeSpec := { name := "visibleReads", fn := fun _ => fun
  | [d1, d2, d3] => { results := [.lit (.bool true)], args := [d1, d2, d3] }
  | _ => none }
def visibleReadsRow : OpenClaim := { program := "ytiklpaemkeadjaa", sum := "8f8aeaae4aab6167610cc9fbd4ea4de684cc1a5136626b8ab8865a8c5e8b4720", func := "fascicle/fasciclelaw13.VisibleReads", spec := "visibleReads", unfollowed := true, recurses := true, apart := false }
def VisibleReadsSaid : Prop := visibleReadsRow.holds Try.pinned (OpenSpec.ofChange visibleReadsSpec)

/-- ITS FALSE NEIGHBOUR: 'it returns false'. Refute it at one input. -/
def visibleReadsWrong : ChangeSpec := { name := "visibleReads", fn := fun _ => fun
  | [d1, d2, d3] => { results := [.lit (.bool false)], args := [d1, d2, d3] }
  | _ => none }
def VisibleReadsWrongFalsely : Prop := visibleReadsRow.holds Try.pinned (OpenSpec.ofChange visibleReadsWrong)

/-- 'fasciclelaw13.VisibleScans': WHATEVER THE INPUT: true; the input reads as it did. -/
def visibleScansSpec : ChangeSpec := { name := "visibleScans", fn := fun _ => fun
  | [d1, d2, d3] => { results := [.lit (.bool true)], args := [d1, d2, d3] }
  | _ => none }
def visibleScansRow : OpenClaim := { program := "ytiklpaemkeadjaa", sum := "8f8aeaae4aab6167610cc9fbd4ea4de684cc1a5136626b8ab8865a8c5e8b4720", func := "fascicle/fasciclelaw13.VisibleScans", spec := "visibleScans", unfollowed := true, recurses := true, apart := false }
def VisibleScansSaid : Prop := visibleScansRow.holds Try.pinned (OpenSpec.ofChange visibleScansSpec)

/-- ITS FALSE NEIGHBOUR: 'it returns false'. Refute it at one input. -/
def visibleScansWrong : ChangeSpec := { name := "visibleScans", fn := fun _ => fun
  | [d1, d2, d3] => { results := [.lit (.bool false)], args := [d1, d2, d3] }
  | _ => none }
def VisibleScansWrongFalsely : Prop := visibleScansRow.holds Try.pinned (OpenSpec.ofChange visibleScansWrong)

/-- 'fasciclelaw13.VisiblePrunes': WHATEVER THE INPUT: true; the input reads as it did. -/
def visiblePrunesSpec : ChangeSpec := { name := "visiblePrunes", fn := fun _ => fun
  | [d1, d2, d3] => { results := [.lit (.bool true)], args := [d1, d2, d3] }
  | _ => none }
def visiblePrunesRow : OpenClaim := { program := "ytiklpaemkeadjaa", sum := "8f8aeaae4aab6167610cc9fbd4ea4de684cc1a5136626b8ab8865a8c5e8b4720", func := "fascicle/fasciclelaw13.VisiblePrunes", spec := "visiblePrunes", unfollowed := true, recurses := true, apart := false }
def VisiblePrunesSaid : Prop := visiblePrunesRow.holds Try.pinned (OpenSpec.ofChange visiblePrunesSpec)

/-- ITS FALSE NEIGHBOUR: 'it returns false'. Refute it at one input. -/
def visiblePrunesWrong : ChangeSpec := { name := "visiblePrunes", fn := fun _ => fun
  | [d1, d2, d3] => { results := [.lit (.bool false)], args := [d1, d2, d3] }
  | _ => none }
def VisiblePrunesWrongFalsely : Prop := visiblePrunesRow.holds Try.pinned (OpenSpec.ofChange visiblePrunesWrong)

/-- 'fasciclelaw13.VisibleCommits': WHATEVER THE INPUT: true; the input reads as it did. -/
def visibleCommitsSpec : ChangeSpec := { name := "visibleCommits", fn := fun _ => fun
  | [d1, d2, d3] => { results := [.lit (.bool true)], args := [d1, d2, d3] }
  | _ => none }
def visibleCommitsRow : OpenClaim := { program := "ytiklpaemkeadjaa", sum := "8f8aeaae4aab6167610cc9fbd4ea4de684cc1a5136626b8ab8865a8c5e8b4720", func := "fascicle/fasciclelaw13.VisibleCommits", spec := "visibleCommits", inPlace := ["slices.overlaps[fascicle/api.Version]"], unfollowed := true, recurses := true, apart := false }
def VisibleCommitsSaid : Prop := visibleCommitsRow.holds Try.pinned (OpenSpec.ofChange visibleCommitsSpec)

/-- ITS FALSE NEIGHBOUR: 'it returns false'. Refute it at one input. -/
def visibleCommitsWrong : ChangeSpec := { name := "visibleCommits", fn := fun _ => fun
  | [d1, d2, d3] => { results := [.lit (.bool false)], args := [d1, d2, d3] }
  | _ => none }
def VisibleCommitsWrongFalsely : Prop := visibleCommitsRow.holds Try.pinned (OpenSpec.ofChange visibleCommitsWrong)

/-- 'fasciclelaw01.OrdkeyTexts': WHATEVER THE INPUT: true; the input reads as it did. -/
def ordkeyTextsSpec : ChangeSpec := { name := "ordkeyTexts", fn := fun _ => fun
  | [d1, d2] => { results := [.lit (.bool true)], args := [d1, d2] }
  | _ => none }
def ordkeyTextsRow : OpenClaim := { program := "ytiklpaemkeadjaa", sum := "8f8aeaae4aab6167610cc9fbd4ea4de684cc1a5136626b8ab8865a8c5e8b4720", func := "fascicle/fasciclelaw01.OrdkeyTexts", spec := "ordkeyTexts", inPlace := ["internal/bytealg.IndexByte", "internal/bytealg.Compare"], apart := false }
def OrdkeyTextsSaid : Prop := ordkeyTextsRow.holds Try.pinned (OpenSpec.ofChange ordkeyTextsSpec)

/-- ITS FALSE NEIGHBOUR: 'it returns false'. Refute it at one input. -/
def ordkeyTextsWrong : ChangeSpec := { name := "ordkeyTexts", fn := fun _ => fun
  | [d1, d2] => { results := [.lit (.bool false)], args := [d1, d2] }
  | _ => none }
def OrdkeyTextsWrongFalsely : Prop := ordkeyTextsRow.holds Try.pinned (OpenSpec.ofChange ordkeyTextsWrong)

/-- 'fasciclelaw01.OrdkeyInts': WHATEVER THE INPUT: true; the input reads as it did. -/
def ordkeyIntsSpec : ChangeSpec := { name := "ordkeyInts", fn := fun _ => fun
  | [d1, d2] => { results := [.lit (.bool true)], args := [d1, d2] }
  | _ => none }
def ordkeyIntsRow : OpenClaim := { program := "ytiklpaemkeadjaa", sum := "8f8aeaae4aab6167610cc9fbd4ea4de684cc1a5136626b8ab8865a8c5e8b4720", func := "fascicle/fasciclelaw01.OrdkeyInts", spec := "ordkeyInts", inPlace := ["internal/bytealg.IndexByte", "internal/bytealg.Compare"], apart := false }
def OrdkeyIntsSaid : Prop := ordkeyIntsRow.holds Try.pinned (OpenSpec.ofChange ordkeyIntsSpec)

/-- ITS FALSE NEIGHBOUR: 'it returns false'. Refute it at one input. -/
def ordkeyIntsWrong : ChangeSpec := { name := "ordkeyInts", fn := fun _ => fun
  | [d1, d2] => { results := [.lit (.bool false)], args := [d1, d2] }
  | _ => none }
def OrdkeyIntsWrongFalsely : Prop := ordkeyIntsRow.holds Try.pinned (OpenSpec.ofChange ordkeyIntsWrong)

/-- 'fasciclelaw01.OrdkeyCompares': WHATEVER THE INPUT: true; the input reads as it did. -/
def ordkeyComparesSpec : ChangeSpec := { name := "ordkeyCompares", fn := fun _ => fun
  | [d1, d2] => { results := [.lit (.bool true)], args := [d1, d2] }
  | _ => none }
def ordkeyComparesRow : OpenClaim := { program := "ytiklpaemkeadjaa", sum := "8f8aeaae4aab6167610cc9fbd4ea4de684cc1a5136626b8ab8865a8c5e8b4720", func := "fascicle/fasciclelaw01.OrdkeyCompares", spec := "ordkeyCompares", inPlace := ["internal/bytealg.IndexByte", "internal/bytealg.Compare"], apart := false }
def OrdkeyComparesSaid : Prop := ordkeyComparesRow.holds Try.pinned (OpenSpec.ofChange ordkeyComparesSpec)

/-- ITS FALSE NEIGHBOUR: 'it returns false'. Refute it at one input. -/
def ordkeyComparesWrong : ChangeSpec := { name := "ordkeyCompares", fn := fun _ => fun
  | [d1, d2] => { results := [.lit (.bool false)], args := [d1, d2] }
  | _ => none }
def OrdkeyComparesWrongFalsely : Prop := ordkeyComparesRow.holds Try.pinned (OpenSpec.ofChange ordkeyComparesWrong)

/-- 'fasciclelaw01.OrdkeyOrder': WHATEVER THE INPUT: true; the input reads as it did. -/
def ordkeyOrderSpec : ChangeSpec := { name := "ordkeyOrder", fn := fun _ => fun
  | [d1, d2, d3] => { results := [.lit (.bool true)], args := [d1, d2, d3] }
  | _ => none }
def ordkeyOrderRow : OpenClaim := { program := "ytiklpaemkeadjaa", sum := "8f8aeaae4aab6167610cc9fbd4ea4de684cc1a5136626b8ab8865a8c5e8b4720", func := "fascicle/fasciclelaw01.OrdkeyOrder", spec := "ordkeyOrder", inPlace := ["internal/bytealg.IndexByte", "internal/bytealg.Compare"], apart := false }
def OrdkeyOrderSaid : Prop := ordkeyOrderRow.holds Try.pinned (OpenSpec.ofChange ordkeyOrderSpec)

/-- ITS FALSE NEIGHBOUR: 'it returns false'. Refute it at one input. -/
def ordkeyOrderWrong : ChangeSpec := { name := "ordkeyOrder", fn := fun _ => fun
  | [d1, d2, d3] => { results := [.lit (.bool false)], args := [d1, d2, d3] }
  | _ => none }
def OrdkeyOrderWrongFalsely : Prop := ordkeyOrderRow.holds Try.pinned (OpenSpec.ofChange ordkeyOrderWrong)

/-- 'fasciclelaw01.OrdkeyBehind': WHATEVER THE INPUT: true; the input reads as it did. -/
def ordkeyBehindSpec : ChangeSpec := { name := "ordkeyBehind", fn := fun _ => fun
  | [d1, d2, d3] => { results := [.lit (.bool true)], args := [d1, d2, d3] }
  | _ => none }
def ordkeyBehindRow : OpenClaim := { program := "ytiklpaemkeadjaa", sum := "8f8aeaae4aab6167610cc9fbd4ea4de684cc1a5136626b8ab8865a8c5e8b4720", func := "fascicle/fasciclelaw01.OrdkeyBehind", spec := "ordkeyBehind", inPlace := ["internal/bytealg.IndexByte", "internal/bytealg.Compare"], apart := false }
def OrdkeyBehindSaid : Prop := ordkeyBehindRow.holds Try.pinned (OpenSpec.ofChange ordkeyBehindSpec)

/-- ITS FALSE NEIGHBOUR: 'it returns false'. Refute it at one input. -/
def ordkeyBehindWrong : ChangeSpec := { name := "ordkeyBehind", fn := fun _ => fun
  | [d1, d2, d3] => { results := [.lit (.bool false)], args := [d1, d2, d3] }
  | _ => none }
def OrdkeyBehindWrongFalsely : Prop := ordkeyBehindRow.holds Try.pinned (OpenSpec.ofChange ordkeyBehindWrong)

/-- 'fasciclelaw01.OrdkeySmalls': WHATEVER THE INPUT: true; the input reads as it did. -/
def ordkeySmallsSpec : ChangeSpec := { name := "ordkeySmalls", fn := fun _ => fun
  | [d1, d2] => { results := [.lit (.bool true)], args := [d1, d2] }
  | _ => none }
def ordkeySmallsRow : OpenClaim := { program := "ytiklpaemkeadjaa", sum := "8f8aeaae4aab6167610cc9fbd4ea4de684cc1a5136626b8ab8865a8c5e8b4720", func := "fascicle/fasciclelaw01.OrdkeySmalls", spec := "ordkeySmalls", inPlace := ["internal/bytealg.IndexByte", "internal/bytealg.Compare"], apart := false }
def OrdkeySmallsSaid : Prop := ordkeySmallsRow.holds Try.pinned (OpenSpec.ofChange ordkeySmallsSpec)

/-- ITS FALSE NEIGHBOUR: 'it returns false'. Refute it at one input. -/
def ordkeySmallsWrong : ChangeSpec := { name := "ordkeySmalls", fn := fun _ => fun
  | [d1, d2] => { results := [.lit (.bool false)], args := [d1, d2] }
  | _ => none }
def OrdkeySmallsWrongFalsely : Prop := ordkeySmallsRow.holds Try.pinned (OpenSpec.ofChange ordkeySmallsWrong)

/-- 'fasciclelaw01.OrdkeyNumbers': WHATEVER THE INPUT: true; the input reads as it did. -/
def ordkeyNumbersSpec : ChangeSpec := { name := "ordkeyNumbers", fn := fun _ => fun
  | [d1, d2, d3] => { results := [.lit (.bool true)], args := [d1, d2, d3] }
  | _ => none }
def ordkeyNumbersRow : OpenClaim := { program := "ytiklpaemkeadjaa", sum := "8f8aeaae4aab6167610cc9fbd4ea4de684cc1a5136626b8ab8865a8c5e8b4720", func := "fascicle/fasciclelaw01.OrdkeyNumbers", spec := "ordkeyNumbers", inPlace := ["internal/bytealg.Compare", "internal/bytealg.IndexByte"], apart := false }
def OrdkeyNumbersSaid : Prop := ordkeyNumbersRow.holds Try.pinned (OpenSpec.ofChange ordkeyNumbersSpec)

/-- ITS FALSE NEIGHBOUR: 'it returns false'. Refute it at one input. -/
def ordkeyNumbersWrong : ChangeSpec := { name := "ordkeyNumbers", fn := fun _ => fun
  | [d1, d2, d3] => { results := [.lit (.bool false)], args := [d1, d2, d3] }
  | _ => none }
def OrdkeyNumbersWrongFalsely : Prop := ordkeyNumbersRow.holds Try.pinned (OpenSpec.ofChange ordkeyNumbersWrong)

/-- 'fasciclelaw01.OrdkeyBack': WHATEVER THE INPUT: true; the input reads as it did. -/
def ordkeyBackSpec : ChangeSpec := { name := "ordkeyBack", fn := fun _ => fun
  | [d1, d2, d3] => { results := [.lit (.bool true)], args := [d1, d2, d3] }
  | _ => none }
def ordkeyBackRow : OpenClaim := { program := "ytiklpaemkeadjaa", sum := "8f8aeaae4aab6167610cc9fbd4ea4de684cc1a5136626b8ab8865a8c5e8b4720", func := "fascicle/fasciclelaw01.OrdkeyBack", spec := "ordkeyBack", inPlace := ["internal/bytealg.IndexByte", "internal/bytealg.Compare"], apart := false }
def OrdkeyBackSaid : Prop := ordkeyBackRow.holds Try.pinned (OpenSpec.ofChange ordkeyBackSpec)

/-- ITS FALSE NEIGHBOUR: 'it returns false'. Refute it at one input. -/
def ordkeyBackWrong : ChangeSpec := { name := "ordkeyBack", fn := fun _ => fun
  | [d1, d2, d3] => { results := [.lit (.bool false)], args := [d1, d2, d3] }
  | _ => none }
def OrdkeyBackWrongFalsely : Prop := ordkeyBackRow.holds Try.pinned (OpenSpec.ofChange ordkeyBackWrong)

/- THE SECOND FORM. 'bulk': how many values and letters a reading holds, each counted each time it is reached (what is shared counts as often as it is met; a slice's spare places count too). A statement '..UptoSaid' is the law's where the arguments, and the package variables that the reading takes, are together of bulk at most 1048576: NARROWER than '..Said'. Prove '..Said' where nothing that the law and all that it calls make is longer than what came in: it says more and counts as full. Else prove '..UptoSaid'. A law counts once. -/
mutual
def uptoBulk {H : Type} : DataW H → Nat
  | .lit (.string bytes) => bytes.length + 1
  | .lit _ => 1
  | .nil => 1
  | .ptr d => uptoBulk d + 1
  | .slice elems spare => uptoBulkAll elems + uptoBulkAll spare + 1
  | .agg parts => uptoBulkAll parts + 1
  | .iface _ d => uptoBulk d + 1
  | .map entries => uptoBulkEntries entries + 1
  | .held _ => 1
def uptoBulkAll {H : Type} : List (DataW H) → Nat
  | [] => 0
  | d :: r => uptoBulk d + uptoBulkAll r
def uptoBulkEntries {H : Type} : List (Lit × DataW H) → Nat
  | [] => 0
  | x :: r => uptoBulkEntry x + uptoBulkEntries r
def uptoBulkEntry {H : Type} : Lit × DataW H → Nat
  | (.string bytes, d) => bytes.length + uptoBulk d + 1
  | (_, d) => uptoBulk d + 1
 end
def uptoSmall : (H : Type) → List (DataW H) → Bool := fun _ ds => decide (uptoBulkAll ds ≤ 1048576)
def OpenSpec.upto (s : _root_.Go.ChangeSpec) : _root_.Go.OpenSpec := { _root_.Go.OpenSpec.ofChange s with cond := some uptoSmall }

/-- 'fasciclelaw13.VisibleReads', WHERE WHAT IT READS IS OF BULK AT MOST 1048576: true; the input reads as it did. -/
def visibleReadsUptoRow : OpenClaim := { program := "ytiklpaemkeadjaa", sum := "8f8aeaae4aab6167610cc9fbd4ea4de684cc1a5136626b8ab8865a8c5e8b4720", func := "fascicle/fasciclelaw13.VisibleReads", spec := "visibleReads", unfollowed := true, recurses := true, apart := false, narrowed := true }
def VisibleReadsUptoSaid : Prop := visibleReadsUptoRow.holds Try.pinned (OpenSpec.upto visibleReadsSpec)

/-- 'fasciclelaw13.VisibleScans', WHERE WHAT IT READS IS OF BULK AT MOST 1048576: true; the input reads as it did. -/
def visibleScansUptoRow : OpenClaim := { program := "ytiklpaemkeadjaa", sum := "8f8aeaae4aab6167610cc9fbd4ea4de684cc1a5136626b8ab8865a8c5e8b4720", func := "fascicle/fasciclelaw13.VisibleScans", spec := "visibleScans", unfollowed := true, recurses := true, apart := false, narrowed := true }
def VisibleScansUptoSaid : Prop := visibleScansUptoRow.holds Try.pinned (OpenSpec.upto visibleScansSpec)

/-- 'fasciclelaw13.VisiblePrunes', WHERE WHAT IT READS IS OF BULK AT MOST 1048576: true; the input reads as it did. -/
def visiblePrunesUptoRow : OpenClaim := { program := "ytiklpaemkeadjaa", sum := "8f8aeaae4aab6167610cc9fbd4ea4de684cc1a5136626b8ab8865a8c5e8b4720", func := "fascicle/fasciclelaw13.VisiblePrunes", spec := "visiblePrunes", unfollowed := true, recurses := true, apart := false, narrowed := true }
def VisiblePrunesUptoSaid : Prop := visiblePrunesUptoRow.holds Try.pinned (OpenSpec.upto visiblePrunesSpec)

/-- 'fasciclelaw13.VisibleCommits', WHERE WHAT IT READS IS OF BULK AT MOST 1048576: true; the input reads as it did. -/
def visibleCommitsUptoRow : OpenClaim := { program := "ytiklpaemkeadjaa", sum := "8f8aeaae4aab6167610cc9fbd4ea4de684cc1a5136626b8ab8865a8c5e8b4720", func := "fascicle/fasciclelaw13.VisibleCommits", spec := "visibleCommits", inPlace := ["slices.overlaps[fascicle/api.Version]"], unfollowed := true, recurses := true, apart := false, narrowed := true }
def VisibleCommitsUptoSaid : Prop := visibleCommitsUptoRow.holds Try.pinned (OpenSpec.upto visibleCommitsSpec)

/-- 'fasciclelaw01.OrdkeyTexts', WHERE WHAT IT READS IS OF BULK AT MOST 1048576: true; the input reads as it did. -/
def ordkeyTextsUptoRow : OpenClaim := { program := "ytiklpaemkeadjaa", sum := "8f8aeaae4aab6167610cc9fbd4ea4de684cc1a5136626b8ab8865a8c5e8b4720", func := "fascicle/fasciclelaw01.OrdkeyTexts", spec := "ordkeyTexts", inPlace := ["internal/bytealg.IndexByte", "internal/bytealg.Compare"], apart := false, narrowed := true }
def OrdkeyTextsUptoSaid : Prop := ordkeyTextsUptoRow.holds Try.pinned (OpenSpec.upto ordkeyTextsSpec)

/-- 'fasciclelaw01.OrdkeyInts', WHERE WHAT IT READS IS OF BULK AT MOST 1048576: true; the input reads as it did. -/
def ordkeyIntsUptoRow : OpenClaim := { program := "ytiklpaemkeadjaa", sum := "8f8aeaae4aab6167610cc9fbd4ea4de684cc1a5136626b8ab8865a8c5e8b4720", func := "fascicle/fasciclelaw01.OrdkeyInts", spec := "ordkeyInts", inPlace := ["internal/bytealg.IndexByte", "internal/bytealg.Compare"], apart := false, narrowed := true }
def OrdkeyIntsUptoSaid : Prop := ordkeyIntsUptoRow.holds Try.pinned (OpenSpec.upto ordkeyIntsSpec)

/-- 'fasciclelaw01.OrdkeyCompares', WHERE WHAT IT READS IS OF BULK AT MOST 1048576: true; the input reads as it did. -/
def ordkeyComparesUptoRow : OpenClaim := { program := "ytiklpaemkeadjaa", sum := "8f8aeaae4aab6167610cc9fbd4ea4de684cc1a5136626b8ab8865a8c5e8b4720", func := "fascicle/fasciclelaw01.OrdkeyCompares", spec := "ordkeyCompares", inPlace := ["internal/bytealg.IndexByte", "internal/bytealg.Compare"], apart := false, narrowed := true }
def OrdkeyComparesUptoSaid : Prop := ordkeyComparesUptoRow.holds Try.pinned (OpenSpec.upto ordkeyComparesSpec)

/-- 'fasciclelaw01.OrdkeyOrder', WHERE WHAT IT READS IS OF BULK AT MOST 1048576: true; the input reads as it did. -/
def ordkeyOrderUptoRow : OpenClaim := { program := "ytiklpaemkeadjaa", sum := "8f8aeaae4aab6167610cc9fbd4ea4de684cc1a5136626b8ab8865a8c5e8b4720", func := "fascicle/fasciclelaw01.OrdkeyOrder", spec := "ordkeyOrder", inPlace := ["internal/bytealg.IndexByte", "internal/bytealg.Compare"], apart := false, narrowed := true }
def OrdkeyOrderUptoSaid : Prop := ordkeyOrderUptoRow.holds Try.pinned (OpenSpec.upto ordkeyOrderSpec)

/-- 'fasciclelaw01.OrdkeyBehind', WHERE WHAT IT READS IS OF BULK AT MOST 1048576: true; the input reads as it did. -/
def ordkeyBehindUptoRow : OpenClaim := { program := "ytiklpaemkeadjaa", sum := "8f8aeaae4aab6167610cc9fbd4ea4de684cc1a5136626b8ab8865a8c5e8b4720", func := "fascicle/fasciclelaw01.OrdkeyBehind", spec := "ordkeyBehind", inPlace := ["internal/bytealg.IndexByte", "internal/bytealg.Compare"], apart := false, narrowed := true }
def OrdkeyBehindUptoSaid : Prop := ordkeyBehindUptoRow.holds Try.pinned (OpenSpec.upto ordkeyBehindSpec)

/-- 'fasciclelaw01.OrdkeySmalls', WHERE WHAT IT READS IS OF BULK AT MOST 1048576: true; the input reads as it did. -/
def ordkeySmallsUptoRow : OpenClaim := { program := "ytiklpaemkeadjaa", sum := "8f8aeaae4aab6167610cc9fbd4ea4de684cc1a5136626b8ab8865a8c5e8b4720", func := "fascicle/fasciclelaw01.OrdkeySmalls", spec := "ordkeySmalls", inPlace := ["internal/bytealg.IndexByte", "internal/bytealg.Compare"], apart := false, narrowed := true }
def OrdkeySmallsUptoSaid : Prop := ordkeySmallsUptoRow.holds Try.pinned (OpenSpec.upto ordkeySmallsSpec)

/-- 'fasciclelaw01.OrdkeyNumbers', WHERE WHAT IT READS IS OF BULK AT MOST 1048576: true; the input reads as it did. -/
def ordkeyNumbersUptoRow : OpenClaim := { program := "ytiklpaemkeadjaa", sum := "8f8aeaae4aab6167610cc9fbd4ea4de684cc1a5136626b8ab8865a8c5e8b4720", func := "fascicle/fasciclelaw01.OrdkeyNumbers", spec := "ordkeyNumbers", inPlace := ["internal/bytealg.Compare", "internal/bytealg.IndexByte"], apart := false, narrowed := true }
def OrdkeyNumbersUptoSaid : Prop := ordkeyNumbersUptoRow.holds Try.pinned (OpenSpec.upto ordkeyNumbersSpec)

/-- 'fasciclelaw01.OrdkeyBack', WHERE WHAT IT READS IS OF BULK AT MOST 1048576: true; the input reads as it did. -/
def ordkeyBackUptoRow : OpenClaim := { program := "ytiklpaemkeadjaa", sum := "8f8aeaae4aab6167610cc9fbd4ea4de684cc1a5136626b8ab8865a8c5e8b4720", func := "fascicle/fasciclelaw01.OrdkeyBack", spec := "ordkeyBack", inPlace := ["internal/bytealg.IndexByte", "internal/bytealg.Compare"], apart := false, narrowed := true }
def OrdkeyBackUptoSaid : Prop := ordkeyBackUptoRow.holds Try.pinned (OpenSpec.upto ordkeyBackSpec)

end Rows
end Go.Proofs.Ytiklpaemkeadjaa
