/-
  No cell of these rows narrows 'for every input' (looked for: loops, veiled, ifaces, maps, wideKeys, modest, calm, conditions, laid).
  DERIVED. THE GIVEN ROWS OF THIS SEAT. 10 by the template 'for every input the law returns true; each argument reads behind the call as it read before'; 0 by the template 'total and deterministic' (their statements: YtcgfolhnoggjfaaTotals.lean).
  GIVEN WITH THE SEED: the statements are not yours to turn. If you find one false, say at which input.
  Laid BY PROGRAM, IN A SANDBOX (cutbox-rows.mjs): the forced cells as the released guide's own fill.sh prints them over the translation 22bc7f67d3a9af42… (all of the seat's roots in one cut). By AI agents, Wed Nov 11 2026. No macro, syntax, notation, axiom, sorry.
-/
import Derived.Test.YtcgfolhnoggjfaaChecked
import GoSem.Claim
import GoSem.ClaimJoined
import GoSem.ClaimMapViews
import Derived.JoinedTies
import Derived.KernelRfl
namespace Go.Proofs.Ytcgfolhnoggjfaa
/- THE CELL 'sum', in the pinned program and in every row, IS THE sha256 OF THE DUMP (.gsa) THAT YtcgfolhnoggjfaaProg.lean LOADS. Nothing in Lean hashes anything: it is a label: what it is worth is what the hold of that sum in a sandbox is worth. -/
noncomputable def Try.pinned : Pinned := { name := "ytcgfolhnoggjfaa", sum := "22bc7f67d3a9af42dbd1808ad533b5e31a95a9909f84564d020fb03a176e98a6", checked := Try.checked }
namespace Rows
def none {H : Type} : Left H := { results := [], args := [] }

/-- 'fasciclelaw33.SamplePicks': WHATEVER THE INPUT: true; the input reads as it did. -/
def samplePicksSpec : ChangeSpec := { name := "samplePicks", fn := fun _ => fun
  | [d1, d2, d3] => { results := [.lit (.bool true)], args := [d1, d2, d3] }
  | _ => none }
def samplePicksRow : OpenClaim := { program := "ytcgfolhnoggjfaa", sum := "22bc7f67d3a9af42dbd1808ad533b5e31a95a9909f84564d020fb03a176e98a6", func := "fascicle/fasciclelaw33.SamplePicks", spec := "samplePicks", unfollowed := true, recurses := true, apart := false }
def SamplePicksSaid : Prop := samplePicksRow.holds Try.pinned (OpenSpec.ofChange samplePicksSpec)

/-- ITS FALSE NEIGHBOUR: 'it returns false'. Refute it at one input. -/
def samplePicksWrong : ChangeSpec := { name := "samplePicks", fn := fun _ => fun
  | [d1, d2, d3] => { results := [.lit (.bool false)], args := [d1, d2, d3] }
  | _ => none }
def SamplePicksWrongFalsely : Prop := samplePicksRow.holds Try.pinned (OpenSpec.ofChange samplePicksWrong)

/-- 'fasciclelaw33.SampleCounts': WHATEVER THE INPUT: true; the input reads as it did. -/
def sampleCountsSpec : ChangeSpec := { name := "sampleCounts", fn := fun _ => fun
  | [d1, d2, d3] => { results := [.lit (.bool true)], args := [d1, d2, d3] }
  | _ => none }
def sampleCountsRow : OpenClaim := { program := "ytcgfolhnoggjfaa", sum := "22bc7f67d3a9af42dbd1808ad533b5e31a95a9909f84564d020fb03a176e98a6", func := "fascicle/fasciclelaw33.SampleCounts", spec := "sampleCounts", unfollowed := true, recurses := true, apart := false }
def SampleCountsSaid : Prop := sampleCountsRow.holds Try.pinned (OpenSpec.ofChange sampleCountsSpec)

/-- ITS FALSE NEIGHBOUR: 'it returns false'. Refute it at one input. -/
def sampleCountsWrong : ChangeSpec := { name := "sampleCounts", fn := fun _ => fun
  | [d1, d2, d3] => { results := [.lit (.bool false)], args := [d1, d2, d3] }
  | _ => none }
def SampleCountsWrongFalsely : Prop := sampleCountsRow.holds Try.pinned (OpenSpec.ofChange sampleCountsWrong)

/-- 'fasciclelaw33.SampleEven': WHATEVER THE INPUT: true; the input reads as it did. -/
def sampleEvenSpec : ChangeSpec := { name := "sampleEven", fn := fun _ => fun
  | [d1, d2] => { results := [.lit (.bool true)], args := [d1, d2] }
  | _ => none }
def sampleEvenRow : OpenClaim := { program := "ytcgfolhnoggjfaa", sum := "22bc7f67d3a9af42dbd1808ad533b5e31a95a9909f84564d020fb03a176e98a6", func := "fascicle/fasciclelaw33.SampleEven", spec := "sampleEven", unfollowed := true, recurses := true, apart := false }
def SampleEvenSaid : Prop := sampleEvenRow.holds Try.pinned (OpenSpec.ofChange sampleEvenSpec)

/-- ITS FALSE NEIGHBOUR: 'it returns false'. Refute it at one input. -/
def sampleEvenWrong : ChangeSpec := { name := "sampleEven", fn := fun _ => fun
  | [d1, d2] => { results := [.lit (.bool false)], args := [d1, d2] }
  | _ => none }
def SampleEvenWrongFalsely : Prop := sampleEvenRow.holds Try.pinned (OpenSpec.ofChange sampleEvenWrong)

/-- 'fasciclelaw33.SampleAll': WHATEVER THE INPUT: true; the input reads as it did. -/
def sampleAllSpec : ChangeSpec := { name := "sampleAll", fn := fun _ => fun
  | [d1, d2, d3] => { results := [.lit (.bool true)], args := [d1, d2, d3] }
  | _ => none }
def sampleAllRow : OpenClaim := { program := "ytcgfolhnoggjfaa", sum := "22bc7f67d3a9af42dbd1808ad533b5e31a95a9909f84564d020fb03a176e98a6", func := "fascicle/fasciclelaw33.SampleAll", spec := "sampleAll", unfollowed := true, recurses := true, apart := false }
def SampleAllSaid : Prop := sampleAllRow.holds Try.pinned (OpenSpec.ofChange sampleAllSpec)

/-- ITS FALSE NEIGHBOUR: 'it returns false'. Refute it at one input. -/
def sampleAllWrong : ChangeSpec := { name := "sampleAll", fn := fun _ => fun
  | [d1, d2, d3] => { results := [.lit (.bool false)], args := [d1, d2, d3] }
  | _ => none }
def SampleAllWrongFalsely : Prop := sampleAllRow.holds Try.pinned (OpenSpec.ofChange sampleAllWrong)

/-- 'fasciclelaw33.SampleBetween': WHATEVER THE INPUT: true; the input reads as it did. -/
def sampleBetweenSpec : ChangeSpec := { name := "sampleBetween", fn := fun _ => fun
  | [d1, d2, d3] => { results := [.lit (.bool true)], args := [d1, d2, d3] }
  | _ => none }
def sampleBetweenRow : OpenClaim := { program := "ytcgfolhnoggjfaa", sum := "22bc7f67d3a9af42dbd1808ad533b5e31a95a9909f84564d020fb03a176e98a6", func := "fascicle/fasciclelaw33.SampleBetween", spec := "sampleBetween", unfollowed := true, recurses := true, apart := false }
def SampleBetweenSaid : Prop := sampleBetweenRow.holds Try.pinned (OpenSpec.ofChange sampleBetweenSpec)

/-- ITS FALSE NEIGHBOUR: 'it returns false'. Refute it at one input. -/
def sampleBetweenWrong : ChangeSpec := { name := "sampleBetween", fn := fun _ => fun
  | [d1, d2, d3] => { results := [.lit (.bool false)], args := [d1, d2, d3] }
  | _ => none }
def SampleBetweenWrongFalsely : Prop := sampleBetweenRow.holds Try.pinned (OpenSpec.ofChange sampleBetweenWrong)

/-- 'fasciclelaw08.WalrecPuts': WHATEVER THE INPUT: true; the input reads as it did. -/
def walrecPutsSpec : ChangeSpec := { name := "walrecPuts", fn := fun _ => fun
  | [d] => { results := [.lit (.bool true)], args := [d] }
  | _ => none }
def walrecPutsRow : OpenClaim := { program := "ytcgfolhnoggjfaa", sum := "22bc7f67d3a9af42dbd1808ad533b5e31a95a9909f84564d020fb03a176e98a6", func := "fascicle/fasciclelaw08.WalrecPuts", spec := "walrecPuts", inPlace := ["internal/bytealg.IndexByte"], unfollowed := true, recurses := true, apart := false }
def WalrecPutsSaid : Prop := walrecPutsRow.holds Try.pinned (OpenSpec.ofChange walrecPutsSpec)

/-- ITS FALSE NEIGHBOUR: 'it returns false'. Refute it at one input. -/
def walrecPutsWrong : ChangeSpec := { name := "walrecPuts", fn := fun _ => fun
  | [d] => { results := [.lit (.bool false)], args := [d] }
  | _ => none }
def WalrecPutsWrongFalsely : Prop := walrecPutsRow.holds Try.pinned (OpenSpec.ofChange walrecPutsWrong)

/-- 'fasciclelaw08.WalrecGets': WHATEVER THE INPUT: true; the input reads as it did. -/
def walrecGetsSpec : ChangeSpec := { name := "walrecGets", fn := fun _ => fun
  | [d] => { results := [.lit (.bool true)], args := [d] }
  | _ => none }
def walrecGetsRow : OpenClaim := { program := "ytcgfolhnoggjfaa", sum := "22bc7f67d3a9af42dbd1808ad533b5e31a95a9909f84564d020fb03a176e98a6", func := "fascicle/fasciclelaw08.WalrecGets", spec := "walrecGets", inPlace := ["internal/bytealg.IndexByte"], unfollowed := true, recurses := true, apart := false }
def WalrecGetsSaid : Prop := walrecGetsRow.holds Try.pinned (OpenSpec.ofChange walrecGetsSpec)

/-- ITS FALSE NEIGHBOUR: 'it returns false'. Refute it at one input. -/
def walrecGetsWrong : ChangeSpec := { name := "walrecGets", fn := fun _ => fun
  | [d] => { results := [.lit (.bool false)], args := [d] }
  | _ => none }
def WalrecGetsWrongFalsely : Prop := walrecGetsRow.holds Try.pinned (OpenSpec.ofChange walrecGetsWrong)

/-- 'fasciclelaw08.WalrecLives': WHATEVER THE INPUT: true; the input reads as it did. -/
def walrecLivesSpec : ChangeSpec := { name := "walrecLives", fn := fun _ => fun
  | [d1, d2] => { results := [.lit (.bool true)], args := [d1, d2] }
  | _ => none }
def walrecLivesRow : OpenClaim := { program := "ytcgfolhnoggjfaa", sum := "22bc7f67d3a9af42dbd1808ad533b5e31a95a9909f84564d020fb03a176e98a6", func := "fascicle/fasciclelaw08.WalrecLives", spec := "walrecLives", inPlace := ["internal/bytealg.IndexByte"], unfollowed := true, recurses := true, apart := false }
def WalrecLivesSaid : Prop := walrecLivesRow.holds Try.pinned (OpenSpec.ofChange walrecLivesSpec)

/-- ITS FALSE NEIGHBOUR: 'it returns false'. Refute it at one input. -/
def walrecLivesWrong : ChangeSpec := { name := "walrecLives", fn := fun _ => fun
  | [d1, d2] => { results := [.lit (.bool false)], args := [d1, d2] }
  | _ => none }
def WalrecLivesWrongFalsely : Prop := walrecLivesRow.holds Try.pinned (OpenSpec.ofChange walrecLivesWrong)

/-- 'fasciclelaw08.WalrecBack': WHATEVER THE INPUT: true; the input reads as it did. -/
def walrecBackSpec : ChangeSpec := { name := "walrecBack", fn := fun _ => fun
  | [d1, d2] => { results := [.lit (.bool true)], args := [d1, d2] }
  | _ => none }
def walrecBackRow : OpenClaim := { program := "ytcgfolhnoggjfaa", sum := "22bc7f67d3a9af42dbd1808ad533b5e31a95a9909f84564d020fb03a176e98a6", func := "fascicle/fasciclelaw08.WalrecBack", spec := "walrecBack", inPlace := ["internal/bytealg.IndexByte"], unfollowed := true, recurses := true, apart := false }
def WalrecBackSaid : Prop := walrecBackRow.holds Try.pinned (OpenSpec.ofChange walrecBackSpec)

/-- ITS FALSE NEIGHBOUR: 'it returns false'. Refute it at one input. -/
def walrecBackWrong : ChangeSpec := { name := "walrecBack", fn := fun _ => fun
  | [d1, d2] => { results := [.lit (.bool false)], args := [d1, d2] }
  | _ => none }
def WalrecBackWrongFalsely : Prop := walrecBackRow.holds Try.pinned (OpenSpec.ofChange walrecBackWrong)

/-- 'fasciclelaw08.WalrecEnds': WHATEVER THE INPUT: true; the input reads as it did. -/
def walrecEndsSpec : ChangeSpec := { name := "walrecEnds", fn := fun _ => fun
  | [d] => { results := [.lit (.bool true)], args := [d] }
  | _ => none }
def walrecEndsRow : OpenClaim := { program := "ytcgfolhnoggjfaa", sum := "22bc7f67d3a9af42dbd1808ad533b5e31a95a9909f84564d020fb03a176e98a6", func := "fascicle/fasciclelaw08.WalrecEnds", spec := "walrecEnds", inPlace := ["internal/bytealg.IndexByte"], unfollowed := true, recurses := true, apart := false }
def WalrecEndsSaid : Prop := walrecEndsRow.holds Try.pinned (OpenSpec.ofChange walrecEndsSpec)

/-- ITS FALSE NEIGHBOUR: 'it returns false'. Refute it at one input. -/
def walrecEndsWrong : ChangeSpec := { name := "walrecEnds", fn := fun _ => fun
  | [d] => { results := [.lit (.bool false)], args := [d] }
  | _ => none }
def WalrecEndsWrongFalsely : Prop := walrecEndsRow.holds Try.pinned (OpenSpec.ofChange walrecEndsWrong)

/- THE SECOND FORM. 'bulk': how many values and letters a reading holds, each counted each time it is reached (what is shared counts as often as it is met; a slice's spare places count too). A statement '..UptoSaid' is the law's where the arguments, and the package variables that the reading takes, are together of bulk at most 1048576: NARROWER than '..Said'. Prove '..Said' where nothing that the law and all that it calls make is longer than what came in: it says more and counts as full. Else prove '..UptoSaid'. A law counts once. -/
mutual
def uptoBulk {H : Type} : DataW H → Nat
  | .lit (.string bytes) => bytes.length + 1
  | .lit _ => 1
  | .nil => 1
  | .ptr d => uptoBulk d + 1
  | .slice elems spare => uptoBulkAll elems + uptoBulkAll spare + 1
  | .agg parts => uptoBulkAll parts + 1
  | .iface _ d => uptoBulk d + 1
  | .map entries => uptoBulkEntries entries + 1
  | .held _ => 1
def uptoBulkAll {H : Type} : List (DataW H) → Nat
  | [] => 0
  | d :: r => uptoBulk d + uptoBulkAll r
def uptoBulkEntries {H : Type} : List (Lit × DataW H) → Nat
  | [] => 0
  | x :: r => uptoBulkEntry x + uptoBulkEntries r
def uptoBulkEntry {H : Type} : Lit × DataW H → Nat
  | (.string bytes, d) => bytes.length + uptoBulk d + 1
  | (_, d) => uptoBulk d + 1
 end
def uptoSmall : (H : Type) → List (DataW H) → Bool := fun _ ds => decide (uptoBulkAll ds ≤ 1048576)
def OpenSpec.upto (s : _root_.Go.ChangeSpec) : _root_.Go.OpenSpec := { _root_.Go.OpenSpec.ofChange s with cond := some uptoSmall }

/-- 'fasciclelaw33.SamplePicks', WHERE WHAT IT READS IS OF BULK AT MOST 1048576: true; the input reads as it did. -/
def samplePicksUptoRow : OpenClaim := { program := "ytcgfolhnoggjfaa", sum := "22bc7f67d3a9af42dbd1808ad533b5e31a95a9909f84564d020fb03a176e98a6", func := "fascicle/fasciclelaw33.SamplePicks", spec := "samplePicks", unfollowed := true, recurses := true, apart := false, narrowed := true }
def SamplePicksUptoSaid : Prop := samplePicksUptoRow.holds Try.pinned (OpenSpec.upto samplePicksSpec)

/-- 'fasciclelaw33.SampleCounts', WHERE WHAT IT READS IS OF BULK AT MOST 1048576: true; the input reads as it did. -/
def sampleCountsUptoRow : OpenClaim := { program := "ytcgfolhnoggjfaa", sum := "22bc7f67d3a9af42dbd1808ad533b5e31a95a9909f84564d020fb03a176e98a6", func := "fascicle/fasciclelaw33.SampleCounts", spec := "sampleCounts", unfollowed := true, recurses := true, apart := false, narrowed := true }
def SampleCountsUptoSaid : Prop := sampleCountsUptoRow.holds Try.pinned (OpenSpec.upto sampleCountsSpec)

/-- 'fasciclelaw33.SampleEven', WHERE WHAT IT READS IS OF BULK AT MOST 1048576: true; the input reads as it did. -/
def sampleEvenUptoRow : OpenClaim := { program := "ytcgfolhnoggjfaa", sum := "22bc7f67d3a9af42dbd1808ad533b5e31a95a9909f84564d020fb03a176e98a6", func := "fascicle/fasciclelaw33.SampleEven", spec := "sampleEven", unfollowed := true, recurses := true, apart := false, narrowed := true }
def SampleEvenUptoSaid : Prop := sampleEvenUptoRow.holds Try.pinned (OpenSpec.upto sampleEvenSpec)

/-- 'fasciclelaw33.SampleAll', WHERE WHAT IT READS IS OF BULK AT MOST 1048576: true; the input reads as it did. -/
def sampleAllUptoRow : OpenClaim := { program := "ytcgfolhnoggjfaa", sum := "22bc7f67d3a9af42dbd1808ad533b5e31a95a9909f84564d020fb03a176e98a6", func := "fascicle/fasciclelaw33.SampleAll", spec := "sampleAll", unfollowed := true, recurses := true, apart := false, narrowed := true }
def SampleAllUptoSaid : Prop := sampleAllUptoRow.holds Try.pinned (OpenSpec.upto sampleAllSpec)

/-- 'fasciclelaw33.SampleBetween', WHERE WHAT IT READS IS OF BULK AT MOST 1048576: true; the input reads as it did. -/
def sampleBetweenUptoRow : OpenClaim := { program := "ytcgfolhnoggjfaa", sum := "22bc7f67d3a9af42dbd1808ad533b5e31a95a9909f84564d020fb03a176e98a6", func := "fascicle/fasciclelaw33.SampleBetween", spec := "sampleBetween", unfollowed := true, recurses := true, apart := false, narrowed := true }
def SampleBetweenUptoSaid : Prop := sampleBetweenUptoRow.holds Try.pinned (OpenSpec.upto sampleBetweenSpec)

/-- 'fasciclelaw08.WalrecPuts', WHERE WHAT IT READS IS OF BULK AT MOST 1048576: true; the input reads as it did. -/
def walrecPutsUptoRow : OpenClaim := { program := "ytcgfolhnoggjfaa", sum := "22bc7f67d3a9af42dbd1808ad533b5e31a95a9909f84564d020fb03a176e98a6", func := "fascicle/fasciclelaw08.WalrecPuts", spec := "walrecPuts", inPlace := ["internal/bytealg.IndexByte"], unfollowed := true, recurses := true, apart := false, narrowed := true }
def WalrecPutsUptoSaid : Prop := walrecPutsUptoRow.holds Try.pinned (OpenSpec.upto walrecPutsSpec)

/-- 'fasciclelaw08.WalrecGets', WHERE WHAT IT READS IS OF BULK AT MOST 1048576: true; the input reads as it did. -/
def walrecGetsUptoRow : OpenClaim := { program := "ytcgfolhnoggjfaa", sum := "22bc7f67d3a9af42dbd1808ad533b5e31a95a9909f84564d020fb03a176e98a6", func := "fascicle/fasciclelaw08.WalrecGets", spec := "walrecGets", inPlace := ["internal/bytealg.IndexByte"], unfollowed := true, recurses := true, apart := false, narrowed := true }
def WalrecGetsUptoSaid : Prop := walrecGetsUptoRow.holds Try.pinned (OpenSpec.upto walrecGetsSpec)

/-- 'fasciclelaw08.WalrecLives', WHERE WHAT IT READS IS OF BULK AT MOST 1048576: true; the input reads as it did. -/
def walrecLivesUptoRow : OpenClaim := { program := "ytcgfolhnoggjfaa", sum := "22bc7f67d3a9af42dbd1808ad533b5e31a95a9909f84564d020fb03a176e98a6", func := "fascicle/fasciclelaw08.WalrecLives", spec := "walrecLives", inPlace := ["internal/bytealg.IndexByte"], unfollowed := true, recurses := true, apart := false, narrowed := true }
def WalrecLivesUptoSaid : Prop := walrecLivesUptoRow.holds Try.pinned (OpenSpec.upto walrecLivesSpec)

/-- 'fasciclelaw08.WalrecBack', WHERE WHAT IT READS IS OF BULK AT MOST 1048576: true; the input reads as it did. -/
def walrecBackUptoRow : OpenClaim := { program := "ytcgfolhnoggjfaa", sum := "22bc7f67d3a9af42dbd1808ad533b5e31a95a9909f84564d020fb03a176e98a6", func := "fascicle/fasciclelaw08.WalrecBack", spec := "walrecBack", inPlace := ["internal/bytealg.IndexByte"], unfollowed := true, recurses := true, apart := false, narrowed := true }
def WalrecBackUptoSaid : Prop := walrecBackUptoRow.holds Try.pinned (OpenSpec.upto walrecBackSpec)

/-- 'fasciclelaw08.WalrecEnds', WHERE WHAT IT READS IS OF BULK AT MOST 1048576: true; the input reads as it did. -/
def walrecEndsUptoRow : OpenClaim := { program := "ytcgfolhnoggjfaa", sum := "22bc7f67d3a9af42dbd1808ad533b5e31a95a9909f84564d020fb03a176e98a6", func := "fascicle/fasciclelaw08.WalrecEnds", spec := "walrecEnds", inPlace := ["internal/bytealg.IndexByte"], unfollowed := true, recurses := true, apart := false, narrowed := true }
def WalrecEndsUptoSaid : Prop := walrecEndsUptoRow.holds Try.pinned (OpenSpec.upto walrecEndsSpec)

end Rows
end Go.Proofs.Ytcgfolhnoggjfaa
