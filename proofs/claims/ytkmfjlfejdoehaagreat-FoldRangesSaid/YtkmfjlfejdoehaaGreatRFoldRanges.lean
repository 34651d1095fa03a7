import Derived.Test.YtkmfjlfejdoehaaGreatQ11
import Derived.Test.YtkmfjlfejdoehaaGreatRows
import Derived.ProofKit
/- The law FoldRanges returns true at every input that can be read, and leaves its arguments as they were. No condition. -/
set_option linter.unusedVariables false
namespace Go.Proofs.YtkmfjlfejdoehaaGreat
open Go.Eng
open Go.ChangeShapes Go.WideShapes Go.ChangeAt Go.RowKit
theorem own : ownKnob Tryz.prog.godebug = none := by kernel_rfl
theorem laidOut : laidOutB Tryz.prog = true := by kernel_rfl
set_option maxRecDepth 100000
theorem foldRanges_lifted (os : Os) (started : os.Started) (H : Type) (enc : TypeId × Value → H) :
    ReturnsInHanded {} Tryz.checked os 8 .any (Rows.foldRangesSpec.pre6 enc Tryz.prog Tryz.f8 Rows.foldRangesRow.domain false) (Rows.foldRangesSpec.post enc Tryz.prog Tryz.f8 false true false false) :=
  law_row (C := Tryz.checked) own started (by kernel_rfl) Tryz.func8 laidOut
    (ChangeSpec.witness6 (enc := enc) (C := Tryz.checked) false ⟨#[], #[.slice none 0 0, .slice none 0 0, .agg #[.string ⟨⟨[]⟩⟩, .string ⟨⟨[]⟩⟩]], []⟩ 8 (by kernel_rfl) (by kernel_rfl) (by kernel_rfl) (by kernel_rfl))
    (tys := [SsT, LvT, BdF]) (by kernel_rfl) (by kernel_rfl) (tb := 4) (by kernel_rfl) (by kernel_rfl) rfl (fun ds hl => by
      change ds.length = 3 at hl
      match ds, hl with
      | [d1, d2, d3], _ => rfl) pFoldRanges
theorem foldRanges_holds : Rows.FoldRangesSaid :=
  OpenClaim.holds_of_wide 8 Tryz.f8 rfl rfl rfl rfl rfl rfl rfl ⟨rfl, rfl, rfl, rfl, rfl⟩ rfl rfl rfl rfl rfl (by kernel_rfl) Tryz.func8 (by kernel_rfl)
    (of_decide_eq_true (by kernel_rfl)) (by unfold Func.isWrapper; first | (rw [if_pos (by decide +kernel)]; kernel_rfl) | (rw [if_neg (by decide +kernel)]; exact ⟨rfl, rfl⟩))
    (fun os started H enc _ => foldRanges_lifted os started H enc)
end Go.Proofs.YtkmfjlfejdoehaaGreat
