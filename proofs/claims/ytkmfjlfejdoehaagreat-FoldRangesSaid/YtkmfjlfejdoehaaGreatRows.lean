/-
  No cell of these rows narrows 'for every input' (looked for: loops, veiled, ifaces, maps, wideKeys, modest, calm, conditions, laid).
  DERIVED. THE GIVEN ROWS OF THIS SEAT. 7 by the template 'for every input the law returns true; each argument reads behind the call as it read before'; 0 by the template 'total and deterministic' (their statements: YtkmfjlfejdoehaaGreatTotals.lean).
  GIVEN WITH THE SEED: the statements are not yours to turn. If you find one false, say at which input.
  Laid BY PROGRAM, IN A SANDBOX (cutbox-rows.mjs): the forced cells as the released guide's own fill.sh prints them over the translation 7e62c4a207eb7845… (all of the seat's roots in one cut). By AI agents, Wed Nov 11 2026. No macro, syntax, notation, axiom, sorry.
-/
import Derived.Test.YtkmfjlfejdoehaaGreatChecked
import GoSem.Claim
import GoSem.ClaimJoined
import GoSem.ClaimMapViews
import Derived.JoinedTies
import Derived.KernelRfl
namespace Go.Proofs.YtkmfjlfejdoehaaGreat
/- THE CELL 'sum', in the pinned program and in every row, IS THE sha256 OF THE DUMP (.gsa) THAT YtkmfjlfejdoehaaGreatProg.lean LOADS. Nothing in Lean hashes anything: it is a label: what it is worth is what the hold of that sum in a sandbox is worth. -/
noncomputable def Tryz.pinned : Pinned := { name := "ytkmfjlfejdoehaagreat", sum := "7e62c4a207eb78453b490e822802e2c69437b0c4cace8eeb3bf4021f5f625260", checked := Tryz.checked }
namespace Rows
def none {H : Type} : Left H := { results := [], args := [] }

/-- 'fasciclelaw14.LeafApplies': WHATEVER THE INPUT: true; the input reads as it did. -/
def leafAppliesSpec : ChangeSpec := { name := "leafApplies", fn := fun _ => fun
  | [d1, d2, d3] => { results := [.lit (.bool true)], args := [d1, d2, d3] }
  | _ => none }
def leafAppliesRow : OpenClaim := { program := "ytkmfjlfejdoehaagreat", sum := "7e62c4a207eb78453b490e822802e2c69437b0c4cace8eeb3bf4021f5f625260", func := "fascicle/fasciclelaw14.LeafApplies", spec := "leafApplies", inPlace := ["slices.overlaps[fascicle/api.Stack]", "slices.overlaps[fascicle/api.Version]", "internal/bytealg.IndexByte", "internal/bytealg.abigen_runtime_cmpstring"], unfollowed := true, recurses := true, apart := false }
def LeafAppliesSaid : Prop := leafAppliesRow.holds Tryz.pinned (OpenSpec.ofChange leafAppliesSpec)

/-- ITS FALSE NEIGHBOUR: 'it returns false'. Refute it at one input. -/
def leafAppliesWrong : ChangeSpec := { name := "leafApplies", fn := fun _ => fun
  | [d1, d2, d3] => { results := [.lit (.bool false)], args := [d1, d2, d3] }
  | _ => none }
def LeafAppliesWrongFalsely : Prop := leafAppliesRow.holds Tryz.pinned (OpenSpec.ofChange leafAppliesWrong)

/-- 'fasciclelaw14.LeafLooks': WHATEVER THE INPUT: true; the input reads as it did. -/
def leafLooksSpec : ChangeSpec := { name := "leafLooks", fn := fun _ => fun
  | [d1, d2, d3] => { results := [.lit (.bool true)], args := [d1, d2, d3] }
  | _ => none }
def leafLooksRow : OpenClaim := { program := "ytkmfjlfejdoehaagreat", sum := "7e62c4a207eb78453b490e822802e2c69437b0c4cace8eeb3bf4021f5f625260", func := "fascicle/fasciclelaw14.LeafLooks", spec := "leafLooks", inPlace := ["slices.overlaps[fascicle/api.Stack]", "slices.overlaps[fascicle/api.Version]", "internal/bytealg.IndexByte", "internal/bytealg.abigen_runtime_cmpstring"], unfollowed := true, recurses := true, apart := false }
def LeafLooksSaid : Prop := leafLooksRow.holds Tryz.pinned (OpenSpec.ofChange leafLooksSpec)

/-- ITS FALSE NEIGHBOUR: 'it returns false'. Refute it at one input. -/
def leafLooksWrong : ChangeSpec := { name := "leafLooks", fn := fun _ => fun
  | [d1, d2, d3] => { results := [.lit (.bool false)], args := [d1, d2, d3] }
  | _ => none }
def LeafLooksWrongFalsely : Prop := leafLooksRow.holds Tryz.pinned (OpenSpec.ofChange leafLooksWrong)

/-- 'fasciclelaw14.LeafParts': WHATEVER THE INPUT: true; the input reads as it did. -/
def leafPartsSpec : ChangeSpec := { name := "leafParts", fn := fun _ => fun
  | [d1, d2] => { results := [.lit (.bool true)], args := [d1, d2] }
  | _ => none }
def leafPartsRow : OpenClaim := { program := "ytkmfjlfejdoehaagreat", sum := "7e62c4a207eb78453b490e822802e2c69437b0c4cace8eeb3bf4021f5f625260", func := "fascicle/fasciclelaw14.LeafParts", spec := "leafParts", inPlace := ["slices.overlaps[fascicle/api.Stack]", "slices.overlaps[fascicle/api.Version]", "internal/bytealg.IndexByte", "internal/bytealg.abigen_runtime_cmpstring"], unfollowed := true, recurses := true, apart := false }
def LeafPartsSaid : Prop := leafPartsRow.holds Tryz.pinned (OpenSpec.ofChange leafPartsSpec)

/-- ITS FALSE NEIGHBOUR: 'it returns false'. Refute it at one input. -/
def leafPartsWrong : ChangeSpec := { name := "leafParts", fn := fun _ => fun
  | [d1, d2] => { results := [.lit (.bool false)], args := [d1, d2] }
  | _ => none }
def LeafPartsWrongFalsely : Prop := leafPartsRow.holds Tryz.pinned (OpenSpec.ofChange leafPartsWrong)

/-- 'fasciclelaw14.LeafStays': WHATEVER THE INPUT: true; the input reads as it did. -/
def leafStaysSpec : ChangeSpec := { name := "leafStays", fn := fun _ => fun
  | [d1, d2] => { results := [.lit (.bool true)], args := [d1, d2] }
  | _ => none }
def leafStaysRow : OpenClaim := { program := "ytkmfjlfejdoehaagreat", sum := "7e62c4a207eb78453b490e822802e2c69437b0c4cace8eeb3bf4021f5f625260", func := "fascicle/fasciclelaw14.LeafStays", spec := "leafStays", inPlace := ["slices.overlaps[fascicle/api.Stack]", "slices.overlaps[fascicle/api.Version]", "internal/bytealg.IndexByte", "internal/bytealg.abigen_runtime_cmpstring"], unfollowed := true, recurses := true, apart := false }
def LeafStaysSaid : Prop := leafStaysRow.holds Tryz.pinned (OpenSpec.ofChange leafStaysSpec)

/-- ITS FALSE NEIGHBOUR: 'it returns false'. Refute it at one input. -/
def leafStaysWrong : ChangeSpec := { name := "leafStays", fn := fun _ => fun
  | [d1, d2] => { results := [.lit (.bool false)], args := [d1, d2] }
  | _ => none }
def LeafStaysWrongFalsely : Prop := leafStaysRow.holds Tryz.pinned (OpenSpec.ofChange leafStaysWrong)

/-- 'fasciclelaw18.FoldKeys': WHATEVER THE INPUT: true; the input reads as it did. -/
def foldKeysSpec : ChangeSpec := { name := "foldKeys", fn := fun _ => fun
  | [d1, d2, d3] => { results := [.lit (.bool true)], args := [d1, d2, d3] }
  | _ => none }
def foldKeysRow : OpenClaim := { program := "ytkmfjlfejdoehaagreat", sum := "7e62c4a207eb78453b490e822802e2c69437b0c4cace8eeb3bf4021f5f625260", func := "fascicle/fasciclelaw18.FoldKeys", spec := "foldKeys", inPlace := ["slices.overlaps[fascicle/api.Version]", "internal/bytealg.abigen_runtime_cmpstring", "slices.overlaps[fascicle/api.Stack]"], unfollowed := true, recurses := true, apart := false }
def FoldKeysSaid : Prop := foldKeysRow.holds Tryz.pinned (OpenSpec.ofChange foldKeysSpec)

/-- ITS FALSE NEIGHBOUR: 'it returns false'. Refute it at one input. -/
def foldKeysWrong : ChangeSpec := { name := "foldKeys", fn := fun _ => fun
  | [d1, d2, d3] => { results := [.lit (.bool false)], args := [d1, d2, d3] }
  | _ => none }
def FoldKeysWrongFalsely : Prop := foldKeysRow.holds Tryz.pinned (OpenSpec.ofChange foldKeysWrong)

/-- 'fasciclelaw18.FoldRanges': WHATEVER THE INPUT: true; the input reads as it did. -/
def foldRangesSpec : ChangeSpec := { name := "foldRanges", fn := fun _ => fun
  | [d1, d2, d3] => { results := [.lit (.bool true)], args := [d1, d2, d3] }
  | _ => none }
def foldRangesRow : OpenClaim := { program := "ytkmfjlfejdoehaagreat", sum := "7e62c4a207eb78453b490e822802e2c69437b0c4cace8eeb3bf4021f5f625260", func := "fascicle/fasciclelaw18.FoldRanges", spec := "foldRanges", inPlace := ["slices.overlaps[fascicle/api.Version]", "internal/bytealg.abigen_runtime_cmpstring", "slices.overlaps[fascicle/api.Stack]"], unfollowed := true, recurses := true, apart := false }
def FoldRangesSaid : Prop := foldRangesRow.holds Tryz.pinned (OpenSpec.ofChange foldRangesSpec)

/-- ITS FALSE NEIGHBOUR: 'it returns false'. Refute it at one input. -/
def foldRangesWrong : ChangeSpec := { name := "foldRanges", fn := fun _ => fun
  | [d1, d2, d3] => { results := [.lit (.bool false)], args := [d1, d2, d3] }
  | _ => none }
def FoldRangesWrongFalsely : Prop := foldRangesRow.holds Tryz.pinned (OpenSpec.ofChange foldRangesWrong)

/-- 'fasciclelaw16.NodePuts': WHATEVER THE INPUT: true; the input reads as it did. -/
def nodePutsSpec : ChangeSpec := { name := "nodePuts", fn := fun _ => fun
  | [d1, d2] => { results := [.lit (.bool true)], args := [d1, d2] }
  | _ => none }
def nodePutsRow : OpenClaim := { program := "ytkmfjlfejdoehaagreat", sum := "7e62c4a207eb78453b490e822802e2c69437b0c4cace8eeb3bf4021f5f625260", func := "fascicle/fasciclelaw16.NodePuts", spec := "nodePuts", inPlace := ["internal/bytealg.IndexByte"], unfollowed := true, recurses := true, apart := false }
def NodePutsSaid : Prop := nodePutsRow.holds Tryz.pinned (OpenSpec.ofChange nodePutsSpec)

/-- ITS FALSE NEIGHBOUR: 'it returns false'. Refute it at one input. -/
def nodePutsWrong : ChangeSpec := { name := "nodePuts", fn := fun _ => fun
  | [d1, d2] => { results := [.lit (.bool false)], args := [d1, d2] }
  | _ => none }
def NodePutsWrongFalsely : Prop := nodePutsRow.holds Tryz.pinned (OpenSpec.ofChange nodePutsWrong)

/- THE SECOND FORM. 'bulk': how many values and letters a reading holds, each counted each time it is reached (what is shared counts as often as it is met; a slice's spare places count too). A statement '..UptoSaid' is the law's where the arguments, and the package variables that the reading takes, are together of bulk at most 1048576: NARROWER than '..Said'. Prove '..Said' where nothing that the law and all that it calls make is longer than what came in: it says more and counts as full. Else prove '..UptoSaid'. A law counts once. -/
mutual
def uptoBulk {H : Type} : DataW H → Nat
  | .lit (.string bytes) => bytes.length + 1
  | .lit _ => 1
  | .nil => 1
  | .ptr d => uptoBulk d + 1
  | .slice elems spare => uptoBulkAll elems + uptoBulkAll spare + 1
  | .agg parts => uptoBulkAll parts + 1
  | .iface _ d => uptoBulk d + 1
  | .map entries => uptoBulkEntries entries + 1
  | .held _ => 1
def uptoBulkAll {H : Type} : List (DataW H) → Nat
  | [] => 0
  | d :: r => uptoBulk d + uptoBulkAll r
def uptoBulkEntries {H : Type} : List (Lit × DataW H) → Nat
  | [] => 0
  | x :: r => uptoBulkEntry x + uptoBulkEntries r
def uptoBulkEntry {H : Type} : Lit × DataW H → Nat
  | (.string bytes, d) => bytes.length + uptoBulk d + 1
  | (_, d) => uptoBulk d + 1
 end
def uptoSmall : (H : Type) → List (DataW H) → Bool := fun _ ds => decide (uptoBulkAll ds ≤ 1048576)
def OpenSpec.upto (s : _root_.Go.ChangeSpec) : _root_.Go.OpenSpec := { _root_.Go.OpenSpec.ofChange s with cond := some uptoSmall }

/-- 'fasciclelaw14.LeafApplies', WHERE WHAT IT READS IS OF BULK AT MOST 1048576: true; the input reads as it did. -/
def leafAppliesUptoRow : OpenClaim := { program := "ytkmfjlfejdoehaagreat", sum := "7e62c4a207eb78453b490e822802e2c69437b0c4cace8eeb3bf4021f5f625260", func := "fascicle/fasciclelaw14.LeafApplies", spec := "leafApplies", inPlace := ["slices.overlaps[fascicle/api.Stack]", "slices.overlaps[fascicle/api.Version]", "internal/bytealg.IndexByte", "internal/bytealg.abigen_runtime_cmpstring"], unfollowed := true, recurses := true, apart := false, narrowed := true }
def LeafAppliesUptoSaid : Prop := leafAppliesUptoRow.holds Tryz.pinned (OpenSpec.upto leafAppliesSpec)

/-- 'fasciclelaw14.LeafLooks', WHERE WHAT IT READS IS OF BULK AT MOST 1048576: true; the input reads as it did. -/
def leafLooksUptoRow : OpenClaim := { program := "ytkmfjlfejdoehaagreat", sum := "7e62c4a207eb78453b490e822802e2c69437b0c4cace8eeb3bf4021f5f625260", func := "fascicle/fasciclelaw14.LeafLooks", spec := "leafLooks", inPlace := ["slices.overlaps[fascicle/api.Stack]", "slices.overlaps[fascicle/api.Version]", "internal/bytealg.IndexByte", "internal/bytealg.abigen_runtime_cmpstring"], unfollowed := true, recurses := true, apart := false, narrowed := true }
def LeafLooksUptoSaid : Prop := leafLooksUptoRow.holds Tryz.pinned (OpenSpec.upto leafLooksSpec)

/-- 'fasciclelaw14.LeafParts', WHERE WHAT IT READS IS OF BULK AT MOST 1048576: true; the input reads as it did. -/
def leafPartsUptoRow : OpenClaim := { program := "ytkmfjlfejdoehaagreat", sum := "7e62c4a207eb78453b490e822802e2c69437b0c4cace8eeb3bf4021f5f625260", func := "fascicle/fasciclelaw14.LeafParts", spec := "leafParts", inPlace := ["slices.overlaps[fascicle/api.Stack]", "slices.overlaps[fascicle/api.Version]", "internal/bytealg.IndexByte", "internal/bytealg.abigen_runtime_cmpstring"], unfollowed := true, recurses := true, apart := false, narrowed := true }
def LeafPartsUptoSaid : Prop := leafPartsUptoRow.holds Tryz.pinned (OpenSpec.upto leafPartsSpec)

/-- 'fasciclelaw14.LeafStays', WHERE WHAT IT READS IS OF BULK AT MOST 1048576: true; the input reads as it did. -/
def leafStaysUptoRow : OpenClaim := { program := "ytkmfjlfejdoehaagreat", sum := "7e62c4a207eb78453b490e822802e2c69437b0c4cace8eeb3bf4021f5f625260", func := "fascicle/fasciclelaw14.LeafStays", spec := "leafStays", inPlace := ["slices.overlaps[fascicle/api.Stack]", "slices.overlaps[fascicle/api.Version]", "internal/bytealg.IndexByte", "internal/bytealg.abigen_runtime_cmpstring"], unfollowed := true, recurses := true, apart := false, narrowed := true }
def LeafStaysUptoSaid : Prop := leafStaysUptoRow.holds Tryz.pinned (OpenSpec.upto leafStaysSpec)

/-- 'fasciclelaw18.FoldKeys', WHERE WHAT IT READS IS OF BULK AT MOST 1048576: true; the input reads as it did. -/
def foldKeysUptoRow : OpenClaim := { program := "ytkmfjlfejdoehaagreat", sum := "7e62c4a207eb78453b490e822802e2c69437b0c4cace8eeb3bf4021f5f625260", func := "fascicle/fasciclelaw18.FoldKeys", spec := "foldKeys", inPlace := ["slices.overlaps[fascicle/api.Version]", "internal/bytealg.abigen_runtime_cmpstring", "slices.overlaps[fascicle/api.Stack]"], unfollowed := true, recurses := true, apart := false, narrowed := true }
def FoldKeysUptoSaid : Prop := foldKeysUptoRow.holds Tryz.pinned (OpenSpec.upto foldKeysSpec)

/-- 'fasciclelaw18.FoldRanges', WHERE WHAT IT READS IS OF BULK AT MOST 1048576: true; the input reads as it did. -/
def foldRangesUptoRow : OpenClaim := { program := "ytkmfjlfejdoehaagreat", sum := "7e62c4a207eb78453b490e822802e2c69437b0c4cace8eeb3bf4021f5f625260", func := "fascicle/fasciclelaw18.FoldRanges", spec := "foldRanges", inPlace := ["slices.overlaps[fascicle/api.Version]", "internal/bytealg.abigen_runtime_cmpstring", "slices.overlaps[fascicle/api.Stack]"], unfollowed := true, recurses := true, apart := false, narrowed := true }
def FoldRangesUptoSaid : Prop := foldRangesUptoRow.holds Tryz.pinned (OpenSpec.upto foldRangesSpec)

/-- 'fasciclelaw16.NodePuts', WHERE WHAT IT READS IS OF BULK AT MOST 1048576: true; the input reads as it did. -/
def nodePutsUptoRow : OpenClaim := { program := "ytkmfjlfejdoehaagreat", sum := "7e62c4a207eb78453b490e822802e2c69437b0c4cace8eeb3bf4021f5f625260", func := "fascicle/fasciclelaw16.NodePuts", spec := "nodePuts", inPlace := ["internal/bytealg.IndexByte"], unfollowed := true, recurses := true, apart := false, narrowed := true }
def NodePutsUptoSaid : Prop := nodePutsUptoRow.holds Tryz.pinned (OpenSpec.upto nodePutsSpec)

end Rows
end Go.Proofs.YtkmfjlfejdoehaaGreat
