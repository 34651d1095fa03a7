/- The law BulkWhole returns true at every input that can be read, and leaves its arguments as they were. No condition. -/
import Derived.Test.YtlfehkoklgmjjaaG14
import Derived.Test.YtlfehkoklgmjjaaRows
import Derived.ProofKit
set_option linter.unusedVariables false
namespace Go.Proofs.Ytlfehkoklgmjjaa
open Go.Eng
open Go.ChangeShapes Go.WideShapes Go.ChangeAt Go.RowKit
theorem own : ownKnob Try.prog.godebug = none := by kernel_rfl
theorem laidOut : laidOutB Try.prog = true := by kernel_rfl
set_option maxRecDepth 100000
theorem bulkWhole_lifted (os : Os) (started : os.Started) (H : Type) (enc : TypeId × Value → H) :
    ReturnsInHanded {} Try.checked os 14 .any (Rows.bulkWholeSpec.pre6 enc Try.prog Try.f14 Rows.bulkWholeRow.domain false) (Rows.bulkWholeSpec.post enc Try.prog Try.f14 false true false false) :=
  law_row (C := Try.checked) own started (by kernel_rfl) Try.func14 laidOut
    (ChangeSpec.witness6 (enc := enc) (C := Try.checked) false ⟨#[], #[.slice none 0 0], []⟩ 8 (by kernel_rfl) (by kernel_rfl) (by kernel_rfl) (by kernel_rfl))
    (tys := [SsT]) (by kernel_rfl) (by kernel_rfl) (tb := 4) (by kernel_rfl) (by kernel_rfl) rfl (fun ds hl => by
      change ds.length = 1 at hl
      match ds, hl with
      | [d1], _ => rfl) pBulkWhole
theorem bulkWhole_holds : Rows.BulkWholeSaid :=
  OpenClaim.holds_of_wide 14 Try.f14 rfl rfl rfl rfl rfl rfl rfl ⟨rfl, rfl, rfl, rfl, rfl⟩ rfl rfl rfl rfl rfl (by kernel_rfl) Try.func14 (by kernel_rfl)
    (of_decide_eq_true (by kernel_rfl)) (by unfold Func.isWrapper; first | (rw [if_pos (by decide +kernel)]; kernel_rfl) | (rw [if_neg (by decide +kernel)]; exact ⟨rfl, rfl⟩))
    (fun os started H enc _ => bulkWhole_lifted os started H enc)
end Go.Proofs.Ytlfehkoklgmjjaa
