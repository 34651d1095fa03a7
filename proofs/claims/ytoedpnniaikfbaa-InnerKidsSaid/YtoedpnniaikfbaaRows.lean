/-
  No cell of these rows narrows 'for every input' (looked for: loops, veiled, ifaces, maps, wideKeys, modest, calm, conditions, laid).
  DERIVED. THE GIVEN ROWS OF THIS SEAT. 10 by the template 'for every input the law returns true; each argument reads behind the call as it read before'; 0 by the template 'total and deterministic' (their statements: YtoedpnniaikfbaaTotals.lean).
  GIVEN WITH THE SEED: the statements are not yours to turn. If you find one false, say at which input.
  Laid BY PROGRAM, IN A SANDBOX (cutbox-rows.mjs): the forced cells as the released guide's own fill.sh prints them over the translation 4ba7eabdf4c0075f… (all of the seat's roots in one cut). By AI agents, Wed Nov 11 2026. No macro, syntax, notation, axiom, sorry.
-/
import Derived.Test.YtoedpnniaikfbaaChecked
import GoSem.Claim
import GoSem.ClaimJoined
import GoSem.ClaimMapViews
import Derived.JoinedTies
import Derived.KernelRfl
namespace Go.Proofs.Ytoedpnniaikfbaa
/- THE CELL 'sum', in the pinned program and in every row, IS THE sha256 OF THE DUMP (.gsa) THAT YtoedpnniaikfbaaProg.lean LOADS. Nothing in Lean hashes anything: it is a label: what it is worth is what the hold of that sum in a sandbox is worth. -/
noncomputable def Try.pinned : Pinned := { name := "ytoedpnniaikfbaa", sum := "4ba7eabdf4c0075f0cfdd1cbc78df60d8b03452e96f6f262aae0e5e8254c59c9", checked := Try.checked }
namespace Rows
def none {H : Type} : Left H := { results := [], args := [] }

/-- 'fasciclelaw12.MsgFolds': WHATEVER THE INPUT: true; the input reads as it did. -/
def msgFoldsSpec : ChangeSpec := { name := "msgFolds", fn := fun _ => fun
  | [d1, d2] => { results := [.lit (.bool true)], args := [d1, d2] }
  | _ => none }
def msgFoldsRow : OpenClaim := { program := "ytoedpnniaikfbaa", sum := "4ba7eabdf4c0075f0cfdd1cbc78df60d8b03452e96f6f262aae0e5e8254c59c9", func := "fascicle/fasciclelaw12.MsgFolds", spec := "msgFolds", inPlace := ["slices.overlaps[fascicle/api.Version]", "internal/bytealg.IndexByte"], unfollowed := true, recurses := true, apart := false }
def MsgFoldsSaid : Prop := msgFoldsRow.holds Try.pinned (OpenSpec.ofChange msgFoldsSpec)

/-- ITS FALSE NEIGHBOUR: 'it returns false'. Refute it at one input. -/
def msgFoldsWrong : ChangeSpec := { name := "msgFolds", fn := fun _ => fun
  | [d1, d2] => { results := [.lit (.bool false)], args := [d1, d2] }
  | _ => none }
def MsgFoldsWrongFalsely : Prop := msgFoldsRow.holds Try.pinned (OpenSpec.ofChange msgFoldsWrong)

/-- 'fasciclelaw12.MsgPicks': WHATEVER THE INPUT: true; the input reads as it did. -/
def msgPicksSpec : ChangeSpec := { name := "msgPicks", fn := fun _ => fun
  | [d1, d2, d3] => { results := [.lit (.bool true)], args := [d1, d2, d3] }
  | _ => none }
def msgPicksRow : OpenClaim := { program := "ytoedpnniaikfbaa", sum := "4ba7eabdf4c0075f0cfdd1cbc78df60d8b03452e96f6f262aae0e5e8254c59c9", func := "fascicle/fasciclelaw12.MsgPicks", spec := "msgPicks", inPlace := ["slices.overlaps[fascicle/api.Version]", "internal/bytealg.IndexByte"], unfollowed := true, recurses := true, apart := false }
def MsgPicksSaid : Prop := msgPicksRow.holds Try.pinned (OpenSpec.ofChange msgPicksSpec)

/-- ITS FALSE NEIGHBOUR: 'it returns false'. Refute it at one input. -/
def msgPicksWrong : ChangeSpec := { name := "msgPicks", fn := fun _ => fun
  | [d1, d2, d3] => { results := [.lit (.bool false)], args := [d1, d2, d3] }
  | _ => none }
def MsgPicksWrongFalsely : Prop := msgPicksRow.holds Try.pinned (OpenSpec.ofChange msgPicksWrong)

/-- 'fasciclelaw12.MsgPuts': WHATEVER THE INPUT: true; the input reads as it did. -/
def msgPutsSpec : ChangeSpec := { name := "msgPuts", fn := fun _ => fun
  | [d1, d2] => { results := [.lit (.bool true)], args := [d1, d2] }
  | _ => none }
def msgPutsRow : OpenClaim := { program := "ytoedpnniaikfbaa", sum := "4ba7eabdf4c0075f0cfdd1cbc78df60d8b03452e96f6f262aae0e5e8254c59c9", func := "fascicle/fasciclelaw12.MsgPuts", spec := "msgPuts", inPlace := ["slices.overlaps[fascicle/api.Version]", "internal/bytealg.IndexByte"], unfollowed := true, recurses := true, apart := false }
def MsgPutsSaid : Prop := msgPutsRow.holds Try.pinned (OpenSpec.ofChange msgPutsSpec)

/-- ITS FALSE NEIGHBOUR: 'it returns false'. Refute it at one input. -/
def msgPutsWrong : ChangeSpec := { name := "msgPuts", fn := fun _ => fun
  | [d1, d2] => { results := [.lit (.bool false)], args := [d1, d2] }
  | _ => none }
def MsgPutsWrongFalsely : Prop := msgPutsRow.holds Try.pinned (OpenSpec.ofChange msgPutsWrong)

/-- 'fasciclelaw12.MsgBack': WHATEVER THE INPUT: true; the input reads as it did. -/
def msgBackSpec : ChangeSpec := { name := "msgBack", fn := fun _ => fun
  | [d1, d2] => { results := [.lit (.bool true)], args := [d1, d2] }
  | _ => none }
def msgBackRow : OpenClaim := { program := "ytoedpnniaikfbaa", sum := "4ba7eabdf4c0075f0cfdd1cbc78df60d8b03452e96f6f262aae0e5e8254c59c9", func := "fascicle/fasciclelaw12.MsgBack", spec := "msgBack", inPlace := ["slices.overlaps[fascicle/api.Version]", "internal/bytealg.IndexByte"], unfollowed := true, recurses := true, apart := false }
def MsgBackSaid : Prop := msgBackRow.holds Try.pinned (OpenSpec.ofChange msgBackSpec)

/-- ITS FALSE NEIGHBOUR: 'it returns false'. Refute it at one input. -/
def msgBackWrong : ChangeSpec := { name := "msgBack", fn := fun _ => fun
  | [d1, d2] => { results := [.lit (.bool false)], args := [d1, d2] }
  | _ => none }
def MsgBackWrongFalsely : Prop := msgBackRow.holds Try.pinned (OpenSpec.ofChange msgBackWrong)

/-- 'fasciclelaw12.MsgKeys': WHATEVER THE INPUT: true; the input reads as it did. -/
def msgKeysSpec : ChangeSpec := { name := "msgKeys", fn := fun _ => fun
  | [d1, d2, d3] => { results := [.lit (.bool true)], args := [d1, d2, d3] }
  | _ => none }
def msgKeysRow : OpenClaim := { program := "ytoedpnniaikfbaa", sum := "4ba7eabdf4c0075f0cfdd1cbc78df60d8b03452e96f6f262aae0e5e8254c59c9", func := "fascicle/fasciclelaw12.MsgKeys", spec := "msgKeys", inPlace := ["slices.overlaps[fascicle/api.Version]", "internal/bytealg.IndexByte"], unfollowed := true, recurses := true, apart := false }
def MsgKeysSaid : Prop := msgKeysRow.holds Try.pinned (OpenSpec.ofChange msgKeysSpec)

/-- ITS FALSE NEIGHBOUR: 'it returns false'. Refute it at one input. -/
def msgKeysWrong : ChangeSpec := { name := "msgKeys", fn := fun _ => fun
  | [d1, d2, d3] => { results := [.lit (.bool false)], args := [d1, d2, d3] }
  | _ => none }
def MsgKeysWrongFalsely : Prop := msgKeysRow.holds Try.pinned (OpenSpec.ofChange msgKeysWrong)

/-- 'fasciclelaw12.MsgParts': WHATEVER THE INPUT: true; the input reads as it did. -/
def msgPartsSpec : ChangeSpec := { name := "msgParts", fn := fun _ => fun
  | [d1, d2, d3] => { results := [.lit (.bool true)], args := [d1, d2, d3] }
  | _ => none }
def msgPartsRow : OpenClaim := { program := "ytoedpnniaikfbaa", sum := "4ba7eabdf4c0075f0cfdd1cbc78df60d8b03452e96f6f262aae0e5e8254c59c9", func := "fascicle/fasciclelaw12.MsgParts", spec := "msgParts", inPlace := ["slices.overlaps[fascicle/api.Version]", "internal/bytealg.IndexByte"], unfollowed := true, recurses := true, apart := false }
def MsgPartsSaid : Prop := msgPartsRow.holds Try.pinned (OpenSpec.ofChange msgPartsSpec)

/-- ITS FALSE NEIGHBOUR: 'it returns false'. Refute it at one input. -/
def msgPartsWrong : ChangeSpec := { name := "msgParts", fn := fun _ => fun
  | [d1, d2, d3] => { results := [.lit (.bool false)], args := [d1, d2, d3] }
  | _ => none }
def MsgPartsWrongFalsely : Prop := msgPartsRow.holds Try.pinned (OpenSpec.ofChange msgPartsWrong)

/-- 'fasciclelaw15.InnerChanges': WHATEVER THE INPUT: true; the input reads as it did. -/
def innerChangesSpec : ChangeSpec := { name := "innerChanges", fn := fun _ => fun
  | [d1, d2, d3] => { results := [.lit (.bool true)], args := [d1, d2, d3] }
  | _ => none }
def innerChangesRow : OpenClaim := { program := "ytoedpnniaikfbaa", sum := "4ba7eabdf4c0075f0cfdd1cbc78df60d8b03452e96f6f262aae0e5e8254c59c9", func := "fascicle/fasciclelaw15.InnerChanges", spec := "innerChanges", inPlace := ["internal/bytealg.IndexByte", "slices.overlaps[string]", "slices.overlaps[int]", "slices.overlaps[[]fascicle/api.Msg]"], unfollowed := true, recurses := true, apart := false }
def InnerChangesSaid : Prop := innerChangesRow.holds Try.pinned (OpenSpec.ofChange innerChangesSpec)

/-- ITS FALSE NEIGHBOUR: 'it returns false'. Refute it at one input. -/
def innerChangesWrong : ChangeSpec := { name := "innerChanges", fn := fun _ => fun
  | [d1, d2, d3] => { results := [.lit (.bool false)], args := [d1, d2, d3] }
  | _ => none }
def InnerChangesWrongFalsely : Prop := innerChangesRow.holds Try.pinned (OpenSpec.ofChange innerChangesWrong)

/-- 'fasciclelaw15.InnerKids': WHATEVER THE INPUT: true; the input reads as it did. -/
def innerKidsSpec : ChangeSpec := { name := "innerKids", fn := fun _ => fun
  | [d1, d2, d3] => { results := [.lit (.bool true)], args := [d1, d2, d3] }
  | _ => none }
def innerKidsRow : OpenClaim := { program := "ytoedpnniaikfbaa", sum := "4ba7eabdf4c0075f0cfdd1cbc78df60d8b03452e96f6f262aae0e5e8254c59c9", func := "fascicle/fasciclelaw15.InnerKids", spec := "innerKids", inPlace := ["internal/bytealg.IndexByte", "slices.overlaps[string]", "slices.overlaps[int]", "slices.overlaps[[]fascicle/api.Msg]"], unfollowed := true, recurses := true, apart := false }
def InnerKidsSaid : Prop := innerKidsRow.holds Try.pinned (OpenSpec.ofChange innerKidsSpec)

/-- ITS FALSE NEIGHBOUR: 'it returns false'. Refute it at one input. -/
def innerKidsWrong : ChangeSpec := { name := "innerKids", fn := fun _ => fun
  | [d1, d2, d3] => { results := [.lit (.bool false)], args := [d1, d2, d3] }
  | _ => none }
def InnerKidsWrongFalsely : Prop := innerKidsRow.holds Try.pinned (OpenSpec.ofChange innerKidsWrong)

/-- 'fasciclelaw15.InnerWaits': WHATEVER THE INPUT: true; the input reads as it did. -/
def innerWaitsSpec : ChangeSpec := { name := "innerWaits", fn := fun _ => fun
  | [d1, d2, d3] => { results := [.lit (.bool true)], args := [d1, d2, d3] }
  | _ => none }
def innerWaitsRow : OpenClaim := { program := "ytoedpnniaikfbaa", sum := "4ba7eabdf4c0075f0cfdd1cbc78df60d8b03452e96f6f262aae0e5e8254c59c9", func := "fascicle/fasciclelaw15.InnerWaits", spec := "innerWaits", inPlace := ["internal/bytealg.IndexByte", "slices.overlaps[string]", "slices.overlaps[int]", "slices.overlaps[[]fascicle/api.Msg]"], unfollowed := true, recurses := true, apart := false }
def InnerWaitsSaid : Prop := innerWaitsRow.holds Try.pinned (OpenSpec.ofChange innerWaitsSpec)

/-- ITS FALSE NEIGHBOUR: 'it returns false'. Refute it at one input. -/
def innerWaitsWrong : ChangeSpec := { name := "innerWaits", fn := fun _ => fun
  | [d1, d2, d3] => { results := [.lit (.bool false)], args := [d1, d2, d3] }
  | _ => none }
def InnerWaitsWrongFalsely : Prop := innerWaitsRow.holds Try.pinned (OpenSpec.ofChange innerWaitsWrong)

/-- 'fasciclelaw15.InnerHalves': WHATEVER THE INPUT: true; the input reads as it did. -/
def innerHalvesSpec : ChangeSpec := { name := "innerHalves", fn := fun _ => fun
  | [d1, d2] => { results := [.lit (.bool true)], args := [d1, d2] }
  | _ => none }
def innerHalvesRow : OpenClaim := { program := "ytoedpnniaikfbaa", sum := "4ba7eabdf4c0075f0cfdd1cbc78df60d8b03452e96f6f262aae0e5e8254c59c9", func := "fascicle/fasciclelaw15.InnerHalves", spec := "innerHalves", inPlace := ["internal/bytealg.IndexByte", "slices.overlaps[string]", "slices.overlaps[int]", "slices.overlaps[[]fascicle/api.Msg]"], unfollowed := true, recurses := true, apart := false }
def InnerHalvesSaid : Prop := innerHalvesRow.holds Try.pinned (OpenSpec.ofChange innerHalvesSpec)

/-- ITS FALSE NEIGHBOUR: 'it returns false'. Refute it at one input. -/
def innerHalvesWrong : ChangeSpec := { name := "innerHalves", fn := fun _ => fun
  | [d1, d2] => { results := [.lit (.bool false)], args := [d1, d2] }
  | _ => none }
def InnerHalvesWrongFalsely : Prop := innerHalvesRow.holds Try.pinned (OpenSpec.ofChange innerHalvesWrong)

/- THE SECOND FORM. 'bulk': how many values and letters a reading holds, each counted each time it is reached (what is shared counts as often as it is met; a slice's spare places count too). A statement '..UptoSaid' is the law's where the arguments, and the package variables that the reading takes, are together of bulk at most 1048576: NARROWER than '..Said'. Prove '..Said' where nothing that the law and all that it calls make is longer than what came in: it says more and counts as full. Else prove '..UptoSaid'. A law counts once. -/
mutual
def uptoBulk {H : Type} : DataW H → Nat
  | .lit (.string bytes) => bytes.length + 1
  | .lit _ => 1
  | .nil => 1
  | .ptr d => uptoBulk d + 1
  | .slice elems spare => uptoBulkAll elems + uptoBulkAll spare + 1
  | .agg parts => uptoBulkAll parts + 1
  | .iface _ d => uptoBulk d + 1
  | .map entries => uptoBulkEntries entries + 1
  | .held _ => 1
def uptoBulkAll {H : Type} : List (DataW H) → Nat
  | [] => 0
  | d :: r => uptoBulk d + uptoBulkAll r
def uptoBulkEntries {H : Type} : List (Lit × DataW H) → Nat
  | [] => 0
  | x :: r => uptoBulkEntry x + uptoBulkEntries r
def uptoBulkEntry {H : Type} : Lit × DataW H → Nat
  | (.string bytes, d) => bytes.length + uptoBulk d + 1
  | (_, d) => uptoBulk d + 1
 end
def uptoSmall : (H : Type) → List (DataW H) → Bool := fun _ ds => decide (uptoBulkAll ds ≤ 1048576)
def OpenSpec.upto (s : _root_.Go.ChangeSpec) : _root_.Go.OpenSpec := { _root_.Go.OpenSpec.ofChange s with cond := some uptoSmall }

/-- 'fasciclelaw12.MsgFolds', WHERE WHAT IT READS IS OF BULK AT MOST 1048576: true; the input reads as it did. -/
def msgFoldsUptoRow : OpenClaim := { program := "ytoedpnniaikfbaa", sum := "4ba7eabdf4c0075f0cfdd1cbc78df60d8b03452e96f6f262aae0e5e8254c59c9", func := "fascicle/fasciclelaw12.MsgFolds", spec := "msgFolds", inPlace := ["slices.overlaps[fascicle/api.Version]", "internal/bytealg.IndexByte"], unfollowed := true, recurses := true, apart := false, narrowed := true }
def MsgFoldsUptoSaid : Prop := msgFoldsUptoRow.holds Try.pinned (OpenSpec.upto msgFoldsSpec)

/-- 'fasciclelaw12.MsgPicks', WHERE WHAT IT READS IS OF BULK AT MOST 1048576: true; the input reads as it did. -/
def msgPicksUptoRow : OpenClaim := { program := "ytoedpnniaikfbaa", sum := "4ba7eabdf4c0075f0cfdd1cbc78df60d8b03452e96f6f262aae0e5e8254c59c9", func := "fascicle/fasciclelaw12.MsgPicks", spec := "msgPicks", inPlace := ["slices.overlaps[fascicle/api.Version]", "internal/bytealg.IndexByte"], unfollowed := true, recurses := true, apart := false, narrowed := true }
def MsgPicksUptoSaid : Prop := msgPicksUptoRow.holds Try.pinned (OpenSpec.upto msgPicksSpec)

/-- 'fasciclelaw12.MsgPuts', WHERE WHAT IT READS IS OF BULK AT MOST 1048576: true; the input reads as it did. -/
def msgPutsUptoRow : OpenClaim := { program := "ytoedpnniaikfbaa", sum := "4ba7eabdf4c0075f0cfdd1cbc78df60d8b03452e96f6f262aae0e5e8254c59c9", func := "fascicle/fasciclelaw12.MsgPuts", spec := "msgPuts", inPlace := ["slices.overlaps[fascicle/api.Version]", "internal/bytealg.IndexByte"], unfollowed := true, recurses := true, apart := false, narrowed := true }
def MsgPutsUptoSaid : Prop := msgPutsUptoRow.holds Try.pinned (OpenSpec.upto msgPutsSpec)

/-- 'fasciclelaw12.MsgBack', WHERE WHAT IT READS IS OF BULK AT MOST 1048576: true; the input reads as it did. -/
def msgBackUptoRow : OpenClaim := { program := "ytoedpnniaikfbaa", sum := "4ba7eabdf4c0075f0cfdd1cbc78df60d8b03452e96f6f262aae0e5e8254c59c9", func := "fascicle/fasciclelaw12.MsgBack", spec := "msgBack", inPlace := ["slices.overlaps[fascicle/api.Version]", "internal/bytealg.IndexByte"], unfollowed := true, recurses := true, apart := false, narrowed := true }
def MsgBackUptoSaid : Prop := msgBackUptoRow.holds Try.pinned (OpenSpec.upto msgBackSpec)

/-- 'fasciclelaw12.MsgKeys', WHERE WHAT IT READS IS OF BULK AT MOST 1048576: true; the input reads as it did. -/
def msgKeysUptoRow : OpenClaim := { program := "ytoedpnniaikfbaa", sum := "4ba7eabdf4c0075f0cfdd1cbc78df60d8b03452e96f6f262aae0e5e8254c59c9", func := "fascicle/fasciclelaw12.MsgKeys", spec := "msgKeys", inPlace := ["slices.overlaps[fascicle/api.Version]", "internal/bytealg.IndexByte"], unfollowed := true, recurses := true, apart := false, narrowed := true }
def MsgKeysUptoSaid : Prop := msgKeysUptoRow.holds Try.pinned (OpenSpec.upto msgKeysSpec)

/-- 'fasciclelaw12.MsgParts', WHERE WHAT IT READS IS OF BULK AT MOST 1048576: true; the input reads as it did. -/
def msgPartsUptoRow : OpenClaim := { program := "ytoedpnniaikfbaa", sum := "4ba7eabdf4c0075f0cfdd1cbc78df60d8b03452e96f6f262aae0e5e8254c59c9", func := "fascicle/fasciclelaw12.MsgParts", spec := "msgParts", inPlace := ["slices.overlaps[fascicle/api.Version]", "internal/bytealg.IndexByte"], unfollowed := true, recurses := true, apart := false, narrowed := true }
def MsgPartsUptoSaid : Prop := msgPartsUptoRow.holds Try.pinned (OpenSpec.upto msgPartsSpec)

/-- 'fasciclelaw15.InnerChanges', WHERE WHAT IT READS IS OF BULK AT MOST 1048576: true; the input reads as it did. -/
def innerChangesUptoRow : OpenClaim := { program := "ytoedpnniaikfbaa", sum := "4ba7eabdf4c0075f0cfdd1cbc78df60d8b03452e96f6f262aae0e5e8254c59c9", func := "fascicle/fasciclelaw15.InnerChanges", spec := "innerChanges", inPlace := ["internal/bytealg.IndexByte", "slices.overlaps[string]", "slices.overlaps[int]", "slices.overlaps[[]fascicle/api.Msg]"], unfollowed := true, recurses := true, apart := false, narrowed := true }
def InnerChangesUptoSaid : Prop := innerChangesUptoRow.holds Try.pinned (OpenSpec.upto innerChangesSpec)

/-- 'fasciclelaw15.InnerKids', WHERE WHAT IT READS IS OF BULK AT MOST 1048576: true; the input reads as it did. -/
def innerKidsUptoRow : OpenClaim := { program := "ytoedpnniaikfbaa", sum := "4ba7eabdf4c0075f0cfdd1cbc78df60d8b03452e96f6f262aae0e5e8254c59c9", func := "fascicle/fasciclelaw15.InnerKids", spec := "innerKids", inPlace := ["internal/bytealg.IndexByte", "slices.overlaps[string]", "slices.overlaps[int]", "slices.overlaps[[]fascicle/api.Msg]"], unfollowed := true, recurses := true, apart := false, narrowed := true }
def InnerKidsUptoSaid : Prop := innerKidsUptoRow.holds Try.pinned (OpenSpec.upto innerKidsSpec)

/-- 'fasciclelaw15.InnerWaits', WHERE WHAT IT READS IS OF BULK AT MOST 1048576: true; the input reads as it did. -/
def innerWaitsUptoRow : OpenClaim := { program := "ytoedpnniaikfbaa", sum := "4ba7eabdf4c0075f0cfdd1cbc78df60d8b03452e96f6f262aae0e5e8254c59c9", func := "fascicle/fasciclelaw15.InnerWaits", spec := "innerWaits", inPlace := ["internal/bytealg.IndexByte", "slices.overlaps[string]", "slices.overlaps[int]", "slices.overlaps[[]fascicle/api.Msg]"], unfollowed := true, recurses := true, apart := false, narrowed := true }
def InnerWaitsUptoSaid : Prop := innerWaitsUptoRow.holds Try.pinned (OpenSpec.upto innerWaitsSpec)

/-- 'fasciclelaw15.InnerHalves', WHERE WHAT IT READS IS OF BULK AT MOST 1048576: true; the input reads as it did. -/
def innerHalvesUptoRow : OpenClaim := { program := "ytoedpnniaikfbaa", sum := "4ba7eabdf4c0075f0cfdd1cbc78df60d8b03452e96f6f262aae0e5e8254c59c9", func := "fascicle/fasciclelaw15.InnerHalves", spec := "innerHalves", inPlace := ["internal/bytealg.IndexByte", "slices.overlaps[string]", "slices.overlaps[int]", "slices.overlaps[[]fascicle/api.Msg]"], unfollowed := true, recurses := true, apart := false, narrowed := true }
def InnerHalvesUptoSaid : Prop := innerHalvesUptoRow.holds Try.pinned (OpenSpec.upto innerHalvesSpec)

end Rows
end Go.Proofs.Ytoedpnniaikfbaa
