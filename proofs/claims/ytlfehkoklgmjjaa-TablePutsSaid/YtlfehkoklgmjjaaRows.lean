/-
  No cell of these rows narrows 'for every input' (looked for: loops, veiled, ifaces, maps, wideKeys, modest, calm, conditions, laid).
  DERIVED. THE GIVEN ROWS OF THIS SEAT. 12 by the template 'for every input the law returns true; each argument reads behind the call as it read before'; 0 by the template 'total and deterministic' (their statements: YtlfehkoklgmjjaaTotals.lean).
  GIVEN WITH THE SEED: the statements are not yours to turn. If you find one false, say at which input.
  Laid BY PROGRAM, IN A SANDBOX (cutbox-rows.mjs): the forced cells as the released guide's own fill.sh prints them over the translation 656fe834acd099ff… (all of the seat's roots in one cut). By AI agents, Wed Nov 11 2026. No macro, syntax, notation, axiom, sorry.
-/
import Derived.Test.YtlfehkoklgmjjaaChecked
import GoSem.Claim
import GoSem.ClaimJoined
import GoSem.ClaimMapViews
import Derived.JoinedTies
import Derived.KernelRfl
namespace Go.Proofs.Ytlfehkoklgmjjaa
/- THE CELL 'sum', in the pinned program and in every row, IS THE sha256 OF THE DUMP (.gsa) THAT YtlfehkoklgmjjaaProg.lean LOADS. Nothing in Lean hashes anything: it is a label: what it is worth is what the hold of that sum in a sandbox is worth. -/
noncomputable def Try.pinned : Pinned := { name := "ytlfehkoklgmjjaa", sum := "656fe834acd099ff634d660998228c78734d8e2892a18c534e74207bfdae5eec", checked := Try.checked }
namespace Rows
def none {H : Type} : Left H := { results := [], args := [] }

/-- 'fasciclelaw22.ConflictLogs': WHATEVER THE INPUT: true; the input reads as it did. -/
def conflictLogsSpec : ChangeSpec := { name := "conflictLogs", fn := fun _ => fun
  | [d1, d2, d3] => { results := [.lit (.bool true)], args := [d1, d2, d3] }
  | _ => none }
def conflictLogsRow : OpenClaim := { program := "ytlfehkoklgmjjaa", sum := "656fe834acd099ff634d660998228c78734d8e2892a18c534e74207bfdae5eec", func := "fascicle/fasciclelaw22.ConflictLogs", spec := "conflictLogs", inPlace := ["slices.overlaps[string]"], unfollowed := true, recurses := true, apart := false }
def ConflictLogsSaid : Prop := conflictLogsRow.holds Try.pinned (OpenSpec.ofChange conflictLogsSpec)

/-- ITS FALSE NEIGHBOUR: 'it returns false'. Refute it at one input. -/
def conflictLogsWrong : ChangeSpec := { name := "conflictLogs", fn := fun _ => fun
  | [d1, d2, d3] => { results := [.lit (.bool false)], args := [d1, d2, d3] }
  | _ => none }
def ConflictLogsWrongFalsely : Prop := conflictLogsRow.holds Try.pinned (OpenSpec.ofChange conflictLogsWrong)

/-- 'fasciclelaw22.ConflictSets': WHATEVER THE INPUT: true; the input reads as it did. -/
def conflictSetsSpec : ChangeSpec := { name := "conflictSets", fn := fun _ => fun
  | [d1, d2, d3] => { results := [.lit (.bool true)], args := [d1, d2, d3] }
  | _ => none }
def conflictSetsRow : OpenClaim := { program := "ytlfehkoklgmjjaa", sum := "656fe834acd099ff634d660998228c78734d8e2892a18c534e74207bfdae5eec", func := "fascicle/fasciclelaw22.ConflictSets", spec := "conflictSets", inPlace := ["slices.overlaps[string]"], unfollowed := true, recurses := true, apart := false }
def ConflictSetsSaid : Prop := conflictSetsRow.holds Try.pinned (OpenSpec.ofChange conflictSetsSpec)

/-- ITS FALSE NEIGHBOUR: 'it returns false'. Refute it at one input. -/
def conflictSetsWrong : ChangeSpec := { name := "conflictSets", fn := fun _ => fun
  | [d1, d2, d3] => { results := [.lit (.bool false)], args := [d1, d2, d3] }
  | _ => none }
def ConflictSetsWrongFalsely : Prop := conflictSetsRow.holds Try.pinned (OpenSpec.ofChange conflictSetsWrong)

/-- 'fasciclelaw22.ConflictTrims': WHATEVER THE INPUT: true; the input reads as it did. -/
def conflictTrimsSpec : ChangeSpec := { name := "conflictTrims", fn := fun _ => fun
  | [d1, d2, d3] => { results := [.lit (.bool true)], args := [d1, d2, d3] }
  | _ => none }
def conflictTrimsRow : OpenClaim := { program := "ytlfehkoklgmjjaa", sum := "656fe834acd099ff634d660998228c78734d8e2892a18c534e74207bfdae5eec", func := "fascicle/fasciclelaw22.ConflictTrims", spec := "conflictTrims", inPlace := ["slices.overlaps[string]"], unfollowed := true, recurses := true, apart := false }
def ConflictTrimsSaid : Prop := conflictTrimsRow.holds Try.pinned (OpenSpec.ofChange conflictTrimsSpec)

/-- ITS FALSE NEIGHBOUR: 'it returns false'. Refute it at one input. -/
def conflictTrimsWrong : ChangeSpec := { name := "conflictTrims", fn := fun _ => fun
  | [d1, d2, d3] => { results := [.lit (.bool false)], args := [d1, d2, d3] }
  | _ => none }
def ConflictTrimsWrongFalsely : Prop := conflictTrimsRow.holds Try.pinned (OpenSpec.ofChange conflictTrimsWrong)

/-- 'fasciclelaw22.ConflictSecond': WHATEVER THE INPUT: true; the input reads as it did. -/
def conflictSecondSpec : ChangeSpec := { name := "conflictSecond", fn := fun _ => fun
  | [d1, d2, d3] => { results := [.lit (.bool true)], args := [d1, d2, d3] }
  | _ => none }
def conflictSecondRow : OpenClaim := { program := "ytlfehkoklgmjjaa", sum := "656fe834acd099ff634d660998228c78734d8e2892a18c534e74207bfdae5eec", func := "fascicle/fasciclelaw22.ConflictSecond", spec := "conflictSecond", inPlace := ["slices.overlaps[string]"], unfollowed := true, recurses := true, apart := false }
def ConflictSecondSaid : Prop := conflictSecondRow.holds Try.pinned (OpenSpec.ofChange conflictSecondSpec)

/-- ITS FALSE NEIGHBOUR: 'it returns false'. Refute it at one input. -/
def conflictSecondWrong : ChangeSpec := { name := "conflictSecond", fn := fun _ => fun
  | [d1, d2, d3] => { results := [.lit (.bool false)], args := [d1, d2, d3] }
  | _ => none }
def ConflictSecondWrongFalsely : Prop := conflictSecondRow.holds Try.pinned (OpenSpec.ofChange conflictSecondWrong)

/-- 'fasciclelaw23.TablePuts': WHATEVER THE INPUT: true; the input reads as it did. -/
def tablePutsSpec : ChangeSpec := { name := "tablePuts", fn := fun _ => fun
  | [d1, d2, d3] => { results := [.lit (.bool true)], args := [d1, d2, d3] }
  | _ => none }
def tablePutsRow : OpenClaim := { program := "ytlfehkoklgmjjaa", sum := "656fe834acd099ff634d660998228c78734d8e2892a18c534e74207bfdae5eec", func := "fascicle/fasciclelaw23.TablePuts", spec := "tablePuts", inPlace := ["slices.overlaps[string]", "internal/bytealg.IndexByte"], unfollowed := true, recurses := true, apart := false }
def TablePutsSaid : Prop := tablePutsRow.holds Try.pinned (OpenSpec.ofChange tablePutsSpec)

/-- ITS FALSE NEIGHBOUR: 'it returns false'. Refute it at one input. -/
def tablePutsWrong : ChangeSpec := { name := "tablePuts", fn := fun _ => fun
  | [d1, d2, d3] => { results := [.lit (.bool false)], args := [d1, d2, d3] }
  | _ => none }
def TablePutsWrongFalsely : Prop := tablePutsRow.holds Try.pinned (OpenSpec.ofChange tablePutsWrong)

/-- 'fasciclelaw11.StackPuts': WHATEVER THE INPUT: true; the input reads as it did. -/
def stackPutsSpec : ChangeSpec := { name := "stackPuts", fn := fun _ => fun
  | [d1, d2, d3] => { results := [.lit (.bool true)], args := [d1, d2, d3] }
  | _ => none }
def stackPutsRow : OpenClaim := { program := "ytlfehkoklgmjjaa", sum := "656fe834acd099ff634d660998228c78734d8e2892a18c534e74207bfdae5eec", func := "fascicle/fasciclelaw11.StackPuts", spec := "stackPuts", inPlace := ["slices.overlaps[fascicle/api.Version]", "internal/bytealg.IndexByte"], unfollowed := true, recurses := true, apart := false }
def StackPutsSaid : Prop := stackPutsRow.holds Try.pinned (OpenSpec.ofChange stackPutsSpec)

/-- ITS FALSE NEIGHBOUR: 'it returns false'. Refute it at one input. -/
def stackPutsWrong : ChangeSpec := { name := "stackPuts", fn := fun _ => fun
  | [d1, d2, d3] => { results := [.lit (.bool false)], args := [d1, d2, d3] }
  | _ => none }
def StackPutsWrongFalsely : Prop := stackPutsRow.holds Try.pinned (OpenSpec.ofChange stackPutsWrong)

/-- 'fasciclelaw11.StackStays': WHATEVER THE INPUT: true; the input reads as it did. -/
def stackStaysSpec : ChangeSpec := { name := "stackStays", fn := fun _ => fun
  | [d1, d2] => { results := [.lit (.bool true)], args := [d1, d2] }
  | _ => none }
def stackStaysRow : OpenClaim := { program := "ytlfehkoklgmjjaa", sum := "656fe834acd099ff634d660998228c78734d8e2892a18c534e74207bfdae5eec", func := "fascicle/fasciclelaw11.StackStays", spec := "stackStays", inPlace := ["slices.overlaps[fascicle/api.Version]", "internal/bytealg.IndexByte"], unfollowed := true, recurses := true, apart := false }
def StackStaysSaid : Prop := stackStaysRow.holds Try.pinned (OpenSpec.ofChange stackStaysSpec)

/-- ITS FALSE NEIGHBOUR: 'it returns false'. Refute it at one input. -/
def stackStaysWrong : ChangeSpec := { name := "stackStays", fn := fun _ => fun
  | [d1, d2] => { results := [.lit (.bool false)], args := [d1, d2] }
  | _ => none }
def StackStaysWrongFalsely : Prop := stackStaysRow.holds Try.pinned (OpenSpec.ofChange stackStaysWrong)

/-- 'fasciclelaw11.StackEnds': WHATEVER THE INPUT: true; the input reads as it did. -/
def stackEndsSpec : ChangeSpec := { name := "stackEnds", fn := fun _ => fun
  | [d1, d2, d3] => { results := [.lit (.bool true)], args := [d1, d2, d3] }
  | _ => none }
def stackEndsRow : OpenClaim := { program := "ytlfehkoklgmjjaa", sum := "656fe834acd099ff634d660998228c78734d8e2892a18c534e74207bfdae5eec", func := "fascicle/fasciclelaw11.StackEnds", spec := "stackEnds", inPlace := ["slices.overlaps[fascicle/api.Version]", "internal/bytealg.IndexByte"], unfollowed := true, recurses := true, apart := false }
def StackEndsSaid : Prop := stackEndsRow.holds Try.pinned (OpenSpec.ofChange stackEndsSpec)

/-- ITS FALSE NEIGHBOUR: 'it returns false'. Refute it at one input. -/
def stackEndsWrong : ChangeSpec := { name := "stackEnds", fn := fun _ => fun
  | [d1, d2, d3] => { results := [.lit (.bool false)], args := [d1, d2, d3] }
  | _ => none }
def StackEndsWrongFalsely : Prop := stackEndsRow.holds Try.pinned (OpenSpec.ofChange stackEndsWrong)

/-- 'fasciclelaw19.BulkLeaves': WHATEVER THE INPUT: true; the input reads as it did. -/
def bulkLeavesSpec : ChangeSpec := { name := "bulkLeaves", fn := fun _ => fun
  | [d] => { results := [.lit (.bool true)], args := [d] }
  | _ => none }
def bulkLeavesRow : OpenClaim := { program := "ytlfehkoklgmjjaa", sum := "656fe834acd099ff634d660998228c78734d8e2892a18c534e74207bfdae5eec", func := "fascicle/fasciclelaw19.BulkLeaves", spec := "bulkLeaves", unfollowed := true, recurses := true, apart := false }
def BulkLeavesSaid : Prop := bulkLeavesRow.holds Try.pinned (OpenSpec.ofChange bulkLeavesSpec)

/-- ITS FALSE NEIGHBOUR: 'it returns false'. Refute it at one input. -/
def bulkLeavesWrong : ChangeSpec := { name := "bulkLeaves", fn := fun _ => fun
  | [d] => { results := [.lit (.bool false)], args := [d] }
  | _ => none }
def BulkLeavesWrongFalsely : Prop := bulkLeavesRow.holds Try.pinned (OpenSpec.ofChange bulkLeavesWrong)

/-- 'fasciclelaw19.BulkPlans': WHATEVER THE INPUT: true; the input reads as it did. -/
def bulkPlansSpec : ChangeSpec := { name := "bulkPlans", fn := fun _ => fun
  | [d] => { results := [.lit (.bool true)], args := [d] }
  | _ => none }
def bulkPlansRow : OpenClaim := { program := "ytlfehkoklgmjjaa", sum := "656fe834acd099ff634d660998228c78734d8e2892a18c534e74207bfdae5eec", func := "fascicle/fasciclelaw19.BulkPlans", spec := "bulkPlans", unfollowed := true, recurses := true, apart := false }
def BulkPlansSaid : Prop := bulkPlansRow.holds Try.pinned (OpenSpec.ofChange bulkPlansSpec)

/-- ITS FALSE NEIGHBOUR: 'it returns false'. Refute it at one input. -/
def bulkPlansWrong : ChangeSpec := { name := "bulkPlans", fn := fun _ => fun
  | [d] => { results := [.lit (.bool false)], args := [d] }
  | _ => none }
def BulkPlansWrongFalsely : Prop := bulkPlansRow.holds Try.pinned (OpenSpec.ofChange bulkPlansWrong)

/-- 'fasciclelaw19.BulkGroups': WHATEVER THE INPUT: true; the input reads as it did. -/
def bulkGroupsSpec : ChangeSpec := { name := "bulkGroups", fn := fun _ => fun
  | [d] => { results := [.lit (.bool true)], args := [d] }
  | _ => none }
def bulkGroupsRow : OpenClaim := { program := "ytlfehkoklgmjjaa", sum := "656fe834acd099ff634d660998228c78734d8e2892a18c534e74207bfdae5eec", func := "fascicle/fasciclelaw19.BulkGroups", spec := "bulkGroups", unfollowed := true, recurses := true, apart := false }
def BulkGroupsSaid : Prop := bulkGroupsRow.holds Try.pinned (OpenSpec.ofChange bulkGroupsSpec)

/-- ITS FALSE NEIGHBOUR: 'it returns false'. Refute it at one input. -/
def bulkGroupsWrong : ChangeSpec := { name := "bulkGroups", fn := fun _ => fun
  | [d] => { results := [.lit (.bool false)], args := [d] }
  | _ => none }
def BulkGroupsWrongFalsely : Prop := bulkGroupsRow.holds Try.pinned (OpenSpec.ofChange bulkGroupsWrong)

/-- 'fasciclelaw19.BulkWhole': WHATEVER THE INPUT: true; the input reads as it did. -/
def bulkWholeSpec : ChangeSpec := { name := "bulkWhole", fn := fun _ => fun
  | [d] => { results := [.lit (.bool true)], args := [d] }
  | _ => none }
def bulkWholeRow : OpenClaim := { program := "ytlfehkoklgmjjaa", sum := "656fe834acd099ff634d660998228c78734d8e2892a18c534e74207bfdae5eec", func := "fascicle/fasciclelaw19.BulkWhole", spec := "bulkWhole", unfollowed := true, recurses := true, apart := false }
def BulkWholeSaid : Prop := bulkWholeRow.holds Try.pinned (OpenSpec.ofChange bulkWholeSpec)

/-- ITS FALSE NEIGHBOUR: 'it returns false'. Refute it at one input. -/
def bulkWholeWrong : ChangeSpec := { name := "bulkWhole", fn := fun _ => fun
  | [d] => { results := [.lit (.bool false)], args := [d] }
  | _ => none }
def BulkWholeWrongFalsely : Prop := bulkWholeRow.holds Try.pinned (OpenSpec.ofChange bulkWholeWrong)

/- THE SECOND FORM. 'bulk': how many values and letters a reading holds, each counted each time it is reached (what is shared counts as often as it is met; a slice's spare places count too). A statement '..UptoSaid' is the law's where the arguments, and the package variables that the reading takes, are together of bulk at most 1048576: NARROWER than '..Said'. Prove '..Said' where nothing that the law and all that it calls make is longer than what came in: it says more and counts as full. Else prove '..UptoSaid'. A law counts once. -/
mutual
def uptoBulk {H : Type} : DataW H → Nat
  | .lit (.string bytes) => bytes.length + 1
  | .lit _ => 1
  | .nil => 1
  | .ptr d => uptoBulk d + 1
  | .slice elems spare => uptoBulkAll elems + uptoBulkAll spare + 1
  | .agg parts => uptoBulkAll parts + 1
  | .iface _ d => uptoBulk d + 1
  | .map entries => uptoBulkEntries entries + 1
  | .held _ => 1
def uptoBulkAll {H : Type} : List (DataW H) → Nat
  | [] => 0
  | d :: r => uptoBulk d + uptoBulkAll r
def uptoBulkEntries {H : Type} : List (Lit × DataW H) → Nat
  | [] => 0
  | x :: r => uptoBulkEntry x + uptoBulkEntries r
def uptoBulkEntry {H : Type} : Lit × DataW H → Nat
  | (.string bytes, d) => bytes.length + uptoBulk d + 1
  | (_, d) => uptoBulk d + 1
 end
def uptoSmall : (H : Type) → List (DataW H) → Bool := fun _ ds => decide (uptoBulkAll ds ≤ 1048576)
def OpenSpec.upto (s : _root_.Go.ChangeSpec) : _root_.Go.OpenSpec := { _root_.Go.OpenSpec.ofChange s with cond := some uptoSmall }

/-- 'fasciclelaw22.ConflictLogs', WHERE WHAT IT READS IS OF BULK AT MOST 1048576: true; the input reads as it did. -/
def conflictLogsUptoRow : OpenClaim := { program := "ytlfehkoklgmjjaa", sum := "656fe834acd099ff634d660998228c78734d8e2892a18c534e74207bfdae5eec", func := "fascicle/fasciclelaw22.ConflictLogs", spec := "conflictLogs", inPlace := ["slices.overlaps[string]"], unfollowed := true, recurses := true, apart := false, narrowed := true }
def ConflictLogsUptoSaid : Prop := conflictLogsUptoRow.holds Try.pinned (OpenSpec.upto conflictLogsSpec)

/-- 'fasciclelaw22.ConflictSets', WHERE WHAT IT READS IS OF BULK AT MOST 1048576: true; the input reads as it did. -/
def conflictSetsUptoRow : OpenClaim := { program := "ytlfehkoklgmjjaa", sum := "656fe834acd099ff634d660998228c78734d8e2892a18c534e74207bfdae5eec", func := "fascicle/fasciclelaw22.ConflictSets", spec := "conflictSets", inPlace := ["slices.overlaps[string]"], unfollowed := true, recurses := true, apart := false, narrowed := true }
def ConflictSetsUptoSaid : Prop := conflictSetsUptoRow.holds Try.pinned (OpenSpec.upto conflictSetsSpec)

/-- 'fasciclelaw22.ConflictTrims', WHERE WHAT IT READS IS OF BULK AT MOST 1048576: true; the input reads as it did. -/
def conflictTrimsUptoRow : OpenClaim := { program := "ytlfehkoklgmjjaa", sum := "656fe834acd099ff634d660998228c78734d8e2892a18c534e74207bfdae5eec", func := "fascicle/fasciclelaw22.ConflictTrims", spec := "conflictTrims", inPlace := ["slices.overlaps[string]"], unfollowed := true, recurses := true, apart := false, narrowed := true }
def ConflictTrimsUptoSaid : Prop := conflictTrimsUptoRow.holds Try.pinned (OpenSpec.upto conflictTrimsSpec)

/-- 'fasciclelaw22.ConflictSecond', WHERE WHAT IT READS IS OF BULK AT MOST 1048576: true; the input reads as it did. -/
def conflictSecondUptoRow : OpenClaim := { program := "ytlfehkoklgmjjaa", sum := "656fe834acd099ff634d660998228c78734d8e2892a18c534e74207bfdae5eec", func := "fascicle/fasciclelaw22.ConflictSecond", spec := "conflictSecond", inPlace := ["slices.overlaps[string]"], unfollowed := true, recurses := true, apart := false, narrowed := true }
def ConflictSecondUptoSaid : Prop := conflictSecondUptoRow.holds Try.pinned (OpenSpec.upto conflictSecondSpec)

/-- 'fasciclelaw23.TablePuts', WHERE WHAT IT READS IS OF BULK AT MOST 1048576: true; the input reads as it did. -/
def tablePutsUptoRow : OpenClaim := { program := "ytlfehkoklgmjjaa", sum := "656fe834acd099ff634d660998228c78734d8e2892a18c534e74207bfdae5eec", func := "fascicle/fasciclelaw23.TablePuts", spec := "tablePuts", inPlace := ["slices.overlaps[string]", "internal/bytealg.IndexByte"], unfollowed := true, recurses := true, apart := false, narrowed := true }
def TablePutsUptoSaid : Prop := tablePutsUptoRow.holds Try.pinned (OpenSpec.upto tablePutsSpec)

/-- 'fasciclelaw11.StackPuts', WHERE WHAT IT READS IS OF BULK AT MOST 1048576: true; the input reads as it did. -/
def stackPutsUptoRow : OpenClaim := { program := "ytlfehkoklgmjjaa", sum := "656fe834acd099ff634d660998228c78734d8e2892a18c534e74207bfdae5eec", func := "fascicle/fasciclelaw11.StackPuts", spec := "stackPuts", inPlace := ["slices.overlaps[fascicle/api.Version]", "internal/bytealg.IndexByte"], unfollowed := true, recurses := true, apart := false, narrowed := true }
def StackPutsUptoSaid : Prop := stackPutsUptoRow.holds Try.pinned (OpenSpec.upto stackPutsSpec)

/-- 'fasciclelaw11.StackStays', WHERE WHAT IT READS IS OF BULK AT MOST 1048576: true; the input reads as it did. -/
def stackStaysUptoRow : OpenClaim := { program := "ytlfehkoklgmjjaa", sum := "656fe834acd099ff634d660998228c78734d8e2892a18c534e74207bfdae5eec", func := "fascicle/fasciclelaw11.StackStays", spec := "stackStays", inPlace := ["slices.overlaps[fascicle/api.Version]", "internal/bytealg.IndexByte"], unfollowed := true, recurses := true, apart := false, narrowed := true }
def StackStaysUptoSaid : Prop := stackStaysUptoRow.holds Try.pinned (OpenSpec.upto stackStaysSpec)

/-- 'fasciclelaw11.StackEnds', WHERE WHAT IT READS IS OF BULK AT MOST 1048576: true; the input reads as it did. -/
def stackEndsUptoRow : OpenClaim := { program := "ytlfehkoklgmjjaa", sum := "656fe834acd099ff634d660998228c78734d8e2892a18c534e74207bfdae5eec", func := "fascicle/fasciclelaw11.StackEnds", spec := "stackEnds", inPlace := ["slices.overlaps[fascicle/api.Version]", "internal/bytealg.IndexByte"], unfollowed := true, recurses := true, apart := false, narrowed := true }
def StackEndsUptoSaid : Prop := stackEndsUptoRow.holds Try.pinned (OpenSpec.upto stackEndsSpec)

/-- 'fasciclelaw19.BulkLeaves', WHERE WHAT IT READS IS OF BULK AT MOST 1048576: true; the input reads as it did. -/
def bulkLeavesUptoRow : OpenClaim := { program := "ytlfehkoklgmjjaa", sum := "656fe834acd099ff634d660998228c78734d8e2892a18c534e74207bfdae5eec", func := "fascicle/fasciclelaw19.BulkLeaves", spec := "bulkLeaves", unfollowed := true, recurses := true, apart := false, narrowed := true }
def BulkLeavesUptoSaid : Prop := bulkLeavesUptoRow.holds Try.pinned (OpenSpec.upto bulkLeavesSpec)

/-- 'fasciclelaw19.BulkPlans', WHERE WHAT IT READS IS OF BULK AT MOST 1048576: true; the input reads as it did. -/
def bulkPlansUptoRow : OpenClaim := { program := "ytlfehkoklgmjjaa", sum := "656fe834acd099ff634d660998228c78734d8e2892a18c534e74207bfdae5eec", func := "fascicle/fasciclelaw19.BulkPlans", spec := "bulkPlans", unfollowed := true, recurses := true, apart := false, narrowed := true }
def BulkPlansUptoSaid : Prop := bulkPlansUptoRow.holds Try.pinned (OpenSpec.upto bulkPlansSpec)

/-- 'fasciclelaw19.BulkGroups', WHERE WHAT IT READS IS OF BULK AT MOST 1048576: true; the input reads as it did. -/
def bulkGroupsUptoRow : OpenClaim := { program := "ytlfehkoklgmjjaa", sum := "656fe834acd099ff634d660998228c78734d8e2892a18c534e74207bfdae5eec", func := "fascicle/fasciclelaw19.BulkGroups", spec := "bulkGroups", unfollowed := true, recurses := true, apart := false, narrowed := true }
def BulkGroupsUptoSaid : Prop := bulkGroupsUptoRow.holds Try.pinned (OpenSpec.upto bulkGroupsSpec)

/-- 'fasciclelaw19.BulkWhole', WHERE WHAT IT READS IS OF BULK AT MOST 1048576: true; the input reads as it did. -/
def bulkWholeUptoRow : OpenClaim := { program := "ytlfehkoklgmjjaa", sum := "656fe834acd099ff634d660998228c78734d8e2892a18c534e74207bfdae5eec", func := "fascicle/fasciclelaw19.BulkWhole", spec := "bulkWhole", unfollowed := true, recurses := true, apart := false, narrowed := true }
def BulkWholeUptoSaid : Prop := bulkWholeUptoRow.holds Try.pinned (OpenSpec.upto bulkWholeSpec)

end Rows
end Go.Proofs.Ytlfehkoklgmjjaa
