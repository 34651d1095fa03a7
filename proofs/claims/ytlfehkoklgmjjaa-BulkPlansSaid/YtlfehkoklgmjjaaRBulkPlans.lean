/- The law BulkPlans returns true at every input that can be read, and leaves its arguments as they were. No condition. -/
import Derived.Test.YtlfehkoklgmjjaaG8
import Derived.Test.YtlfehkoklgmjjaaRows
import Derived.ProofKit
set_option linter.unusedVariables false
namespace Go.Proofs.Ytlfehkoklgmjjaa
open Go.Eng
open Go.ChangeShapes Go.WideShapes Go.ChangeAt Go.RowKit
theorem own : ownKnob Try.prog.godebug = none := by kernel_rfl
theorem laidOut : laidOutB Try.prog = true := by kernel_rfl
set_option maxRecDepth 100000
theorem bulkPlans_lifted (os : Os) (started : os.Started) (H : Type) (enc : TypeId × Value → H) :
    ReturnsInHanded {} Try.checked os 12 .any (Rows.bulkPlansSpec.pre6 enc Try.prog Try.f12 Rows.bulkPlansRow.domain false) (Rows.bulkPlansSpec.post enc Try.prog Try.f12 false true false false) :=
  law_row (C := Try.checked) own started (by kernel_rfl) Try.func12 laidOut
    (ChangeSpec.witness6 (enc := enc) (C := Try.checked) false ⟨#[], #[.int .i64 0], []⟩ 8 (by kernel_rfl) (by kernel_rfl) (by kernel_rfl) (by kernel_rfl))
    (tys := [.int .i64]) (by kernel_rfl) (by kernel_rfl) (tb := 4) (by kernel_rfl) (by kernel_rfl) rfl (fun ds hl => by
      change ds.length = 1 at hl
      match ds, hl with
      | [d1], _ => rfl) pBulkPlans
theorem bulkPlans_holds : Rows.BulkPlansSaid :=
  OpenClaim.holds_of_wide 12 Try.f12 rfl rfl rfl rfl rfl rfl rfl ⟨rfl, rfl, rfl, rfl, rfl⟩ rfl rfl rfl rfl rfl (by kernel_rfl) Try.func12 (by kernel_rfl)
    (of_decide_eq_true (by kernel_rfl)) (by unfold Func.isWrapper; first | (rw [if_pos (by decide +kernel)]; kernel_rfl) | (rw [if_neg (by decide +kernel)]; exact ⟨rfl, rfl⟩))
    (fun os started H enc _ => bulkPlans_lifted os started H enc)
end Go.Proofs.Ytlfehkoklgmjjaa
