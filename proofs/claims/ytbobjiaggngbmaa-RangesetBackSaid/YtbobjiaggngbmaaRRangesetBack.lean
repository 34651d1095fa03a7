import Derived.Test.YtbobjiaggngbmaaU17
import Derived.Test.YtbobjiaggngbmaaRows
import Derived.ProofKit
/- The law RangesetBack returns true at every input that can be read, and leaves its arguments as they were. No condition. -/
set_option linter.unusedVariables false
namespace Go.Proofs.Ytbobjiaggngbmaa
open Go.Eng
open Go.ChangeShapes Go.WideShapes Go.ChangeAt Go.RowKit
theorem own : ownKnob Try.prog.godebug = none := by kernel_rfl
theorem laidOut : laidOutB Try.prog = true := by kernel_rfl
set_option maxRecDepth 100000
theorem rangesetBack_lifted (os : Os) (started : os.Started) (H : Type) (enc : TypeId × Value → H) :
    ReturnsInHanded {} Try.checked os 6 .any (Rows.rangesetBackSpec.pre6 enc Try.prog Try.f6 Rows.rangesetBackRow.domain false) (Rows.rangesetBackSpec.post enc Try.prog Try.f6 false true false false) :=
  law_row_sz (C := Try.checked) own started (by kernel_rfl) Try.func6 laidOut
    (ChangeSpec.witness6 (enc := enc) (C := Try.checked) false ⟨#[], #[.slice none 0 0, .agg #[.string ⟨⟨[]⟩⟩, .string ⟨⟨[]⟩⟩]], []⟩ 8 (by kernel_rfl) (by kernel_rfl) (by kernel_rfl) (by kernel_rfl))
    (tys := [RgsT, RgT]) (bts := [.sl 32 (.pr .s .s), .pr .s .s]) (by kernel_rfl) (by kernel_rfl) (tb := 4) (by kernel_rfl) (by kernel_rfl) rfl (fun ds hl => by
      change ds.length = 2 at hl
      match ds, hl with
      | [d1, d2], _ => rfl) (by kernel_rfl) pRangesetBack
theorem rangesetBack_holds : Rows.RangesetBackSaid :=
  OpenClaim.holds_of_wide 6 Try.f6 rfl rfl rfl rfl rfl rfl rfl ⟨rfl, rfl, rfl, rfl, rfl⟩ rfl rfl rfl rfl rfl (by kernel_rfl) Try.func6 (by kernel_rfl)
    (of_decide_eq_true (by kernel_rfl)) (by unfold Func.isWrapper; first | (rw [if_pos (by decide +kernel)]; kernel_rfl) | (rw [if_neg (by decide +kernel)]; exact ⟨rfl, rfl⟩))
    (fun os started H enc _ => rangesetBack_lifted os started H enc)
end Go.Proofs.Ytbobjiaggngbmaa
