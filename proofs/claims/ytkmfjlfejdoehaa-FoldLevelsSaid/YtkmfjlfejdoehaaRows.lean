/-
  No cell of these rows narrows 'for every input' (looked for: loops, veiled, ifaces, maps, wideKeys, modest, calm, conditions, laid).
  DERIVED. THE GIVEN ROWS OF THIS SEAT. 4 by the template 'for every input the law returns true; each argument reads behind the call as it read before'; 0 by the template 'total and deterministic' (their statements: YtkmfjlfejdoehaaTotals.lean).
  GIVEN WITH THE SEED: the statements are not yours to turn. If you find one false, say at which input.
  Laid BY PROGRAM, IN A SANDBOX (cutbox-rows.mjs): the forced cells as the released guide's own fill.sh prints them over the translation b9b13f1eb31fa39a… (all of the seat's roots in one cut). By AI agents, Wed Nov 11 2026. No macro, syntax, notation, axiom, sorry.
-/
import Derived.Test.YtkmfjlfejdoehaaChecked
import GoSem.Claim
import GoSem.ClaimJoined
import GoSem.ClaimMapViews
import Derived.JoinedTies
import Derived.KernelRfl
namespace Go.Proofs.Ytkmfjlfejdoehaa
/- THE CELL 'sum', in the pinned program and in every row, IS THE sha256 OF THE DUMP (.gsa) THAT YtkmfjlfejdoehaaProg.lean LOADS. Nothing in Lean hashes anything: it is a label: what it is worth is what the hold of that sum in a sandbox is worth. -/
noncomputable def Try.pinned : Pinned := { name := "ytkmfjlfejdoehaa", sum := "b9b13f1eb31fa39adfe5ef5f6a0c94032c240c7715d79ccd57523ac74461cc57", checked := Try.checked }
namespace Rows
def none {H : Type} : Left H := { results := [], args := [] }

/-- 'fasciclelaw18.FoldMeets': WHATEVER THE INPUT: true; the input reads as it did. -/
def foldMeetsSpec : ChangeSpec := { name := "foldMeets", fn := fun _ => fun
  | [d1, d2, d3] => { results := [.lit (.bool true)], args := [d1, d2, d3] }
  | _ => none }
def foldMeetsRow : OpenClaim := { program := "ytkmfjlfejdoehaa", sum := "b9b13f1eb31fa39adfe5ef5f6a0c94032c240c7715d79ccd57523ac74461cc57", func := "fascicle/fasciclelaw18.FoldMeets", spec := "foldMeets", inPlace := ["slices.overlaps[fascicle/api.Version]", "internal/bytealg.abigen_runtime_cmpstring", "slices.overlaps[fascicle/api.Stack]"], unfollowed := true, recurses := true, apart := false }
def FoldMeetsSaid : Prop := foldMeetsRow.holds Try.pinned (OpenSpec.ofChange foldMeetsSpec)

/-- ITS FALSE NEIGHBOUR: 'it returns false'. Refute it at one input. -/
def foldMeetsWrong : ChangeSpec := { name := "foldMeets", fn := fun _ => fun
  | [d1, d2, d3] => { results := [.lit (.bool false)], args := [d1, d2, d3] }
  | _ => none }
def FoldMeetsWrongFalsely : Prop := foldMeetsRow.holds Try.pinned (OpenSpec.ofChange foldMeetsWrong)

/-- 'fasciclelaw18.FoldLevels': WHATEVER THE INPUT: true; the input reads as it did. -/
def foldLevelsSpec : ChangeSpec := { name := "foldLevels", fn := fun _ => fun
  | [d1, d2, d3] => { results := [.lit (.bool true)], args := [d1, d2, d3] }
  | _ => none }
def foldLevelsRow : OpenClaim := { program := "ytkmfjlfejdoehaa", sum := "b9b13f1eb31fa39adfe5ef5f6a0c94032c240c7715d79ccd57523ac74461cc57", func := "fascicle/fasciclelaw18.FoldLevels", spec := "foldLevels", inPlace := ["slices.overlaps[fascicle/api.Version]", "internal/bytealg.abigen_runtime_cmpstring", "slices.overlaps[fascicle/api.Stack]"], unfollowed := true, recurses := true, apart := false }
def FoldLevelsSaid : Prop := foldLevelsRow.holds Try.pinned (OpenSpec.ofChange foldLevelsSpec)

/-- ITS FALSE NEIGHBOUR: 'it returns false'. Refute it at one input. -/
def foldLevelsWrong : ChangeSpec := { name := "foldLevels", fn := fun _ => fun
  | [d1, d2, d3] => { results := [.lit (.bool false)], args := [d1, d2, d3] }
  | _ => none }
def FoldLevelsWrongFalsely : Prop := foldLevelsRow.holds Try.pinned (OpenSpec.ofChange foldLevelsWrong)

/-- 'fasciclelaw16.NodeTells': WHATEVER THE INPUT: true; the input reads as it did. -/
def nodeTellsSpec : ChangeSpec := { name := "nodeTells", fn := fun _ => fun
  | [d1, d2] => { results := [.lit (.bool true)], args := [d1, d2] }
  | _ => none }
def nodeTellsRow : OpenClaim := { program := "ytkmfjlfejdoehaa", sum := "b9b13f1eb31fa39adfe5ef5f6a0c94032c240c7715d79ccd57523ac74461cc57", func := "fascicle/fasciclelaw16.NodeTells", spec := "nodeTells", inPlace := ["internal/bytealg.IndexByte"], unfollowed := true, recurses := true, apart := false }
def NodeTellsSaid : Prop := nodeTellsRow.holds Try.pinned (OpenSpec.ofChange nodeTellsSpec)

/-- ITS FALSE NEIGHBOUR: 'it returns false'. Refute it at one input. -/
def nodeTellsWrong : ChangeSpec := { name := "nodeTells", fn := fun _ => fun
  | [d1, d2] => { results := [.lit (.bool false)], args := [d1, d2] }
  | _ => none }
def NodeTellsWrongFalsely : Prop := nodeTellsRow.holds Try.pinned (OpenSpec.ofChange nodeTellsWrong)

/-- 'fasciclelaw16.NodeBack': WHATEVER THE INPUT: true; the input reads as it did. -/
def nodeBackSpec : ChangeSpec := { name := "nodeBack", fn := fun _ => fun
  | [d1, d2] => { results := [.lit (.bool true)], args := [d1, d2] }
  | _ => none }
def nodeBackRow : OpenClaim := { program := "ytkmfjlfejdoehaa", sum := "b9b13f1eb31fa39adfe5ef5f6a0c94032c240c7715d79ccd57523ac74461cc57", func := "fascicle/fasciclelaw16.NodeBack", spec := "nodeBack", inPlace := ["internal/bytealg.IndexByte"], unfollowed := true, recurses := true, apart := false }
def NodeBackSaid : Prop := nodeBackRow.holds Try.pinned (OpenSpec.ofChange nodeBackSpec)

/-- ITS FALSE NEIGHBOUR: 'it returns false'. Refute it at one input. -/
def nodeBackWrong : ChangeSpec := { name := "nodeBack", fn := fun _ => fun
  | [d1, d2] => { results := [.lit (.bool false)], args := [d1, d2] }
  | _ => none }
def NodeBackWrongFalsely : Prop := nodeBackRow.holds Try.pinned (OpenSpec.ofChange nodeBackWrong)

/- THE SECOND FORM. 'bulk': how many values and letters a reading holds, each counted each time it is reached (what is shared counts as often as it is met; a slice's spare places count too). A statement '..UptoSaid' is the law's where the arguments, and the package variables that the reading takes, are together of bulk at most 1048576: NARROWER than '..Said'. Prove '..Said' where nothing that the law and all that it calls make is longer than what came in: it says more and counts as full. Else prove '..UptoSaid'. A law counts once. -/
mutual
def uptoBulk {H : Type} : DataW H → Nat
  | .lit (.string bytes) => bytes.length + 1
  | .lit _ => 1
  | .nil => 1
  | .ptr d => uptoBulk d + 1
  | .slice elems spare => uptoBulkAll elems + uptoBulkAll spare + 1
  | .agg parts => uptoBulkAll parts + 1
  | .iface _ d => uptoBulk d + 1
  | .map entries => uptoBulkEntries entries + 1
  | .held _ => 1
def uptoBulkAll {H : Type} : List (DataW H) → Nat
  | [] => 0
  | d :: r => uptoBulk d + uptoBulkAll r
def uptoBulkEntries {H : Type} : List (Lit × DataW H) → Nat
  | [] => 0
  | x :: r => uptoBulkEntry x + uptoBulkEntries r
def uptoBulkEntry {H : Type} : Lit × DataW H → Nat
  | (.string bytes, d) => bytes.length + uptoBulk d + 1
  | (_, d) => uptoBulk d + 1
 end
def uptoSmall : (H : Type) → List (DataW H) → Bool := fun _ ds => decide (uptoBulkAll ds ≤ 1048576)
def OpenSpec.upto (s : _root_.Go.ChangeSpec) : _root_.Go.OpenSpec := { _root_.Go.OpenSpec.ofChange s with cond := some uptoSmall }

/-- 'fasciclelaw18.FoldMeets', WHERE WHAT IT READS IS OF BULK AT MOST 1048576: true; the input reads as it did. -/
def foldMeetsUptoRow : OpenClaim := { program := "ytkmfjlfejdoehaa", sum := "b9b13f1eb31fa39adfe5ef5f6a0c94032c240c7715d79ccd57523ac74461cc57", func := "fascicle/fasciclelaw18.FoldMeets", spec := "foldMeets", inPlace := ["slices.overlaps[fascicle/api.Version]", "internal/bytealg.abigen_runtime_cmpstring", "slices.overlaps[fascicle/api.Stack]"], unfollowed := true, recurses := true, apart := false, narrowed := true }
def FoldMeetsUptoSaid : Prop := foldMeetsUptoRow.holds Try.pinned (OpenSpec.upto foldMeetsSpec)

/-- 'fasciclelaw18.FoldLevels', WHERE WHAT IT READS IS OF BULK AT MOST 1048576: true; the input reads as it did. -/
def foldLevelsUptoRow : OpenClaim := { program := "ytkmfjlfejdoehaa", sum := "b9b13f1eb31fa39adfe5ef5f6a0c94032c240c7715d79ccd57523ac74461cc57", func := "fascicle/fasciclelaw18.FoldLevels", spec := "foldLevels", inPlace := ["slices.overlaps[fascicle/api.Version]", "internal/bytealg.abigen_runtime_cmpstring", "slices.overlaps[fascicle/api.Stack]"], unfollowed := true, recurses := true, apart := false, narrowed := true }
def FoldLevelsUptoSaid : Prop := foldLevelsUptoRow.holds Try.pinned (OpenSpec.upto foldLevelsSpec)

/-- 'fasciclelaw16.NodeTells', WHERE WHAT IT READS IS OF BULK AT MOST 1048576: true; the input reads as it did. -/
def nodeTellsUptoRow : OpenClaim := { program := "ytkmfjlfejdoehaa", sum := "b9b13f1eb31fa39adfe5ef5f6a0c94032c240c7715d79ccd57523ac74461cc57", func := "fascicle/fasciclelaw16.NodeTells", spec := "nodeTells", inPlace := ["internal/bytealg.IndexByte"], unfollowed := true, recurses := true, apart := false, narrowed := true }
def NodeTellsUptoSaid : Prop := nodeTellsUptoRow.holds Try.pinned (OpenSpec.upto nodeTellsSpec)

/-- 'fasciclelaw16.NodeBack', WHERE WHAT IT READS IS OF BULK AT MOST 1048576: true; the input reads as it did. -/
def nodeBackUptoRow : OpenClaim := { program := "ytkmfjlfejdoehaa", sum := "b9b13f1eb31fa39adfe5ef5f6a0c94032c240c7715d79ccd57523ac74461cc57", func := "fascicle/fasciclelaw16.NodeBack", spec := "nodeBack", inPlace := ["internal/bytealg.IndexByte"], unfollowed := true, recurses := true, apart := false, narrowed := true }
def NodeBackUptoSaid : Prop := nodeBackUptoRow.holds Try.pinned (OpenSpec.upto nodeBackSpec)

end Rows
end Go.Proofs.Ytkmfjlfejdoehaa
