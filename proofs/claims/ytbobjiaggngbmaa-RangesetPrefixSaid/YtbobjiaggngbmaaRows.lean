/-
  No cell of these rows narrows 'for every input' (looked for: loops, veiled, ifaces, maps, wideKeys, modest, calm, conditions, laid).
  DERIVED. THE GIVEN ROWS OF THIS SEAT. 5 by the template 'for every input the law returns true; each argument reads behind the call as it read before'; 0 by the template 'total and deterministic' (their statements: YtbobjiaggngbmaaTotals.lean).
  GIVEN WITH THE SEED: the statements are not yours to turn. If you find one false, say at which input.
  Laid BY PROGRAM, IN A SANDBOX (cutbox-rows.mjs): the forced cells as the released guide's own fill.sh prints them over the translation 0c065594266f1514… (all of the seat's roots in one cut). By AI agents, Wed Nov 11 2026. No macro, syntax, notation, axiom, sorry.
-/
import Derived.Test.YtbobjiaggngbmaaChecked
import GoSem.Claim
import GoSem.ClaimJoined
import GoSem.ClaimMapViews
import Derived.JoinedTies
import Derived.KernelRfl
namespace Go.Proofs.Ytbobjiaggngbmaa
/- THE CELL 'sum', in the pinned program and in every row, IS THE sha256 OF THE DUMP (.gsa) THAT YtbobjiaggngbmaaProg.lean LOADS. Nothing in Lean hashes anything: it is a label: what it is worth is what the hold of that sum in a sandbox is worth. -/
noncomputable def Try.pinned : Pinned := { name := "ytbobjiaggngbmaa", sum := "0c065594266f151431b1dfc88a0bb36cda161d949f9719bdb609cb1e05701785", checked := Try.checked }
namespace Rows
def none {H : Type} : Left H := { results := [], args := [] }

/-- 'fasciclelaw32.RangesetMakes': WHATEVER THE INPUT: true; the input reads as it did. -/
def rangesetMakesSpec : ChangeSpec := { name := "rangesetMakes", fn := fun _ => fun
  | [d1, d2, d3] => { results := [.lit (.bool true)], args := [d1, d2, d3] }
  | _ => none }
def rangesetMakesRow : OpenClaim := { program := "ytbobjiaggngbmaa", sum := "0c065594266f151431b1dfc88a0bb36cda161d949f9719bdb609cb1e05701785", func := "fascicle/fasciclelaw32.RangesetMakes", spec := "rangesetMakes", inPlace := ["internal/bytealg.abigen_runtime_cmpstring", "internal/bytealg.IndexByte"], unfollowed := true, recurses := true, apart := false }
def RangesetMakesSaid : Prop := rangesetMakesRow.holds Try.pinned (OpenSpec.ofChange rangesetMakesSpec)

/-- ITS FALSE NEIGHBOUR: 'it returns false'. Refute it at one input. -/
def rangesetMakesWrong : ChangeSpec := { name := "rangesetMakes", fn := fun _ => fun
  | [d1, d2, d3] => { results := [.lit (.bool false)], args := [d1, d2, d3] }
  | _ => none }
def RangesetMakesWrongFalsely : Prop := rangesetMakesRow.holds Try.pinned (OpenSpec.ofChange rangesetMakesWrong)

/-- 'fasciclelaw32.RangesetTells': WHATEVER THE INPUT: true; the input reads as it did. -/
def rangesetTellsSpec : ChangeSpec := { name := "rangesetTells", fn := fun _ => fun
  | [d1, d2, d3] => { results := [.lit (.bool true)], args := [d1, d2, d3] }
  | _ => none }
def rangesetTellsRow : OpenClaim := { program := "ytbobjiaggngbmaa", sum := "0c065594266f151431b1dfc88a0bb36cda161d949f9719bdb609cb1e05701785", func := "fascicle/fasciclelaw32.RangesetTells", spec := "rangesetTells", inPlace := ["internal/bytealg.abigen_runtime_cmpstring", "internal/bytealg.IndexByte"], unfollowed := true, recurses := true, apart := false }
def RangesetTellsSaid : Prop := rangesetTellsRow.holds Try.pinned (OpenSpec.ofChange rangesetTellsSpec)

/-- ITS FALSE NEIGHBOUR: 'it returns false'. Refute it at one input. -/
def rangesetTellsWrong : ChangeSpec := { name := "rangesetTells", fn := fun _ => fun
  | [d1, d2, d3] => { results := [.lit (.bool false)], args := [d1, d2, d3] }
  | _ => none }
def RangesetTellsWrongFalsely : Prop := rangesetTellsRow.holds Try.pinned (OpenSpec.ofChange rangesetTellsWrong)

/-- 'fasciclelaw32.RangesetKeys': WHATEVER THE INPUT: true; the input reads as it did. -/
def rangesetKeysSpec : ChangeSpec := { name := "rangesetKeys", fn := fun _ => fun
  | [d1, d2, d3] => { results := [.lit (.bool true)], args := [d1, d2, d3] }
  | _ => none }
def rangesetKeysRow : OpenClaim := { program := "ytbobjiaggngbmaa", sum := "0c065594266f151431b1dfc88a0bb36cda161d949f9719bdb609cb1e05701785", func := "fascicle/fasciclelaw32.RangesetKeys", spec := "rangesetKeys", inPlace := ["internal/bytealg.abigen_runtime_cmpstring", "internal/bytealg.IndexByte"], unfollowed := true, recurses := true, apart := false }
def RangesetKeysSaid : Prop := rangesetKeysRow.holds Try.pinned (OpenSpec.ofChange rangesetKeysSpec)

/-- ITS FALSE NEIGHBOUR: 'it returns false'. Refute it at one input. -/
def rangesetKeysWrong : ChangeSpec := { name := "rangesetKeys", fn := fun _ => fun
  | [d1, d2, d3] => { results := [.lit (.bool false)], args := [d1, d2, d3] }
  | _ => none }
def RangesetKeysWrongFalsely : Prop := rangesetKeysRow.holds Try.pinned (OpenSpec.ofChange rangesetKeysWrong)

/-- 'fasciclelaw32.RangesetBack': WHATEVER THE INPUT: true; the input reads as it did. -/
def rangesetBackSpec : ChangeSpec := { name := "rangesetBack", fn := fun _ => fun
  | [d1, d2] => { results := [.lit (.bool true)], args := [d1, d2] }
  | _ => none }
def rangesetBackRow : OpenClaim := { program := "ytbobjiaggngbmaa", sum := "0c065594266f151431b1dfc88a0bb36cda161d949f9719bdb609cb1e05701785", func := "fascicle/fasciclelaw32.RangesetBack", spec := "rangesetBack", inPlace := ["internal/bytealg.abigen_runtime_cmpstring", "internal/bytealg.IndexByte"], unfollowed := true, recurses := true, apart := false }
def RangesetBackSaid : Prop := rangesetBackRow.holds Try.pinned (OpenSpec.ofChange rangesetBackSpec)

/-- ITS FALSE NEIGHBOUR: 'it returns false'. Refute it at one input. -/
def rangesetBackWrong : ChangeSpec := { name := "rangesetBack", fn := fun _ => fun
  | [d1, d2] => { results := [.lit (.bool false)], args := [d1, d2] }
  | _ => none }
def RangesetBackWrongFalsely : Prop := rangesetBackRow.holds Try.pinned (OpenSpec.ofChange rangesetBackWrong)

/-- 'fasciclelaw32.RangesetPrefix': WHATEVER THE INPUT: true; the input reads as it did. -/
def rangesetPrefixSpec : ChangeSpec := { name := "rangesetPrefix", fn := fun _ => fun
  | [d1, d2] => { results := [.lit (.bool true)], args := [d1, d2] }
  | _ => none }
def rangesetPrefixRow : OpenClaim := { program := "ytbobjiaggngbmaa", sum := "0c065594266f151431b1dfc88a0bb36cda161d949f9719bdb609cb1e05701785", func := "fascicle/fasciclelaw32.RangesetPrefix", spec := "rangesetPrefix", inPlace := ["internal/bytealg.abigen_runtime_cmpstring", "internal/bytealg.IndexByte"], unfollowed := true, recurses := true, apart := false }
def RangesetPrefixSaid : Prop := rangesetPrefixRow.holds Try.pinned (OpenSpec.ofChange rangesetPrefixSpec)

/-- ITS FALSE NEIGHBOUR: 'it returns false'. Refute it at one input. -/
def rangesetPrefixWrong : ChangeSpec := { name := "rangesetPrefix", fn := fun _ => fun
  | [d1, d2] => { results := [.lit (.bool false)], args := [d1, d2] }
  | _ => none }
def RangesetPrefixWrongFalsely : Prop := rangesetPrefixRow.holds Try.pinned (OpenSpec.ofChange rangesetPrefixWrong)

/- THE SECOND FORM. 'bulk': how many values and letters a reading holds, each counted each time it is reached (what is shared counts as often as it is met; a slice's spare places count too). A statement '..UptoSaid' is the law's where the arguments, and the package variables that the reading takes, are together of bulk at most 1048576: NARROWER than '..Said'. Prove '..Said' where nothing that the law and all that it calls make is longer than what came in: it says more and counts as full. Else prove '..UptoSaid'. A law counts once. -/
mutual
def uptoBulk {H : Type} : DataW H → Nat
  | .lit (.string bytes) => bytes.length + 1
  | .lit _ => 1
  | .nil => 1
  | .ptr d => uptoBulk d + 1
  | .slice elems spare => uptoBulkAll elems + uptoBulkAll spare + 1
  | .agg parts => uptoBulkAll parts + 1
  | .iface _ d => uptoBulk d + 1
  | .map entries => uptoBulkEntries entries + 1
  | .held _ => 1
def uptoBulkAll {H : Type} : List (DataW H) → Nat
  | [] => 0
  | d :: r => uptoBulk d + uptoBulkAll r
def uptoBulkEntries {H : Type} : List (Lit × DataW H) → Nat
  | [] => 0
  | x :: r => uptoBulkEntry x + uptoBulkEntries r
def uptoBulkEntry {H : Type} : Lit × DataW H → Nat
  | (.string bytes, d) => bytes.length + uptoBulk d + 1
  | (_, d) => uptoBulk d + 1
 end
def uptoSmall : (H : Type) → List (DataW H) → Bool := fun _ ds => decide (uptoBulkAll ds ≤ 1048576)
def OpenSpec.upto (s : _root_.Go.ChangeSpec) : _root_.Go.OpenSpec := { _root_.Go.OpenSpec.ofChange s with cond := some uptoSmall }

/-- 'fasciclelaw32.RangesetMakes', WHERE WHAT IT READS IS OF BULK AT MOST 1048576: true; the input reads as it did. -/
def rangesetMakesUptoRow : OpenClaim := { program := "ytbobjiaggngbmaa", sum := "0c065594266f151431b1dfc88a0bb36cda161d949f9719bdb609cb1e05701785", func := "fascicle/fasciclelaw32.RangesetMakes", spec := "rangesetMakes", inPlace := ["internal/bytealg.abigen_runtime_cmpstring", "internal/bytealg.IndexByte"], unfollowed := true, recurses := true, apart := false, narrowed := true }
def RangesetMakesUptoSaid : Prop := rangesetMakesUptoRow.holds Try.pinned (OpenSpec.upto rangesetMakesSpec)

/-- 'fasciclelaw32.RangesetTells', WHERE WHAT IT READS IS OF BULK AT MOST 1048576: true; the input reads as it did. -/
def rangesetTellsUptoRow : OpenClaim := { program := "ytbobjiaggngbmaa", sum := "0c065594266f151431b1dfc88a0bb36cda161d949f9719bdb609cb1e05701785", func := "fascicle/fasciclelaw32.RangesetTells", spec := "rangesetTells", inPlace := ["internal/bytealg.abigen_runtime_cmpstring", "internal/bytealg.IndexByte"], unfollowed := true, recurses := true, apart := false, narrowed := true }
def RangesetTellsUptoSaid : Prop := rangesetTellsUptoRow.holds Try.pinned (OpenSpec.upto rangesetTellsSpec)

/-- 'fasciclelaw32.RangesetKeys', WHERE WHAT IT READS IS OF BULK AT MOST 1048576: true; the input reads as it did. -/
def rangesetKeysUptoRow : OpenClaim := { program := "ytbobjiaggngbmaa", sum := "0c065594266f151431b1dfc88a0bb36cda161d949f9719bdb609cb1e05701785", func := "fascicle/fasciclelaw32.RangesetKeys", spec := "rangesetKeys", inPlace := ["internal/bytealg.abigen_runtime_cmpstring", "internal/bytealg.IndexByte"], unfollowed := true, recurses := true, apart := false, narrowed := true }
def RangesetKeysUptoSaid : Prop := rangesetKeysUptoRow.holds Try.pinned (OpenSpec.upto rangesetKeysSpec)

/-- 'fasciclelaw32.RangesetBack', WHERE WHAT IT READS IS OF BULK AT MOST 1048576: true; the input reads as it did. -/
def rangesetBackUptoRow : OpenClaim := { program := "ytbobjiaggngbmaa", sum := "0c065594266f151431b1dfc88a0bb36cda161d949f9719bdb609cb1e05701785", func := "fascicle/fasciclelaw32.RangesetBack", spec := "rangesetBack", inPlace := ["internal/bytealg.abigen_runtime_cmpstring", "internal/bytealg.IndexByte"], unfollowed := true, recurses := true, apart := false, narrowed := true }
def RangesetBackUptoSaid : Prop := rangesetBackUptoRow.holds Try.pinned (OpenSpec.upto rangesetBackSpec)

/-- 'fasciclelaw32.RangesetPrefix', WHERE WHAT IT READS IS OF BULK AT MOST 1048576: true; the input reads as it did. -/
def rangesetPrefixUptoRow : OpenClaim := { program := "ytbobjiaggngbmaa", sum := "0c065594266f151431b1dfc88a0bb36cda161d949f9719bdb609cb1e05701785", func := "fascicle/fasciclelaw32.RangesetPrefix", spec := "rangesetPrefix", inPlace := ["internal/bytealg.abigen_runtime_cmpstring", "internal/bytealg.IndexByte"], unfollowed := true, recurses := true, apart := false, narrowed := true }
def RangesetPrefixUptoSaid : Prop := rangesetPrefixUptoRow.holds Try.pinned (OpenSpec.upto rangesetPrefixSpec)

end Rows
end Go.Proofs.Ytbobjiaggngbmaa
