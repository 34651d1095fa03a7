/- The law OrdkeyNumbers returns true at every input that can be read, and leaves its arguments as they were. No condition. -/
import Derived.Test.YtiklpaemkeadjaaB10
import Derived.Test.YtiklpaemkeadjaaRows
import Derived.ProofKit
set_option linter.unusedVariables false
namespace Go.Proofs.Ytiklpaemkeadjaa
open Go.Eng
open Go.ChangeShapes Go.WideShapes Go.ChangeAt Go.RowKit
theorem own : ownKnob Try.prog.godebug = none := by kernel_rfl
theorem laidOut : laidOutB Try.prog = true := by kernel_rfl
set_option maxRecDepth 100000
theorem ordkeyNumbers_lifted (os : Os) (started : os.Started) (H : Type) (enc : TypeId × Value → H) :
    ReturnsInHanded {} Try.checked os 13 .any (Rows.ordkeyNumbersSpec.pre6 enc Try.prog Try.f13 Rows.ordkeyNumbersRow.domain false) (Rows.ordkeyNumbersSpec.post enc Try.prog Try.f13 false true false false) :=
  law_row (C := Try.checked) own started (by kernel_rfl) Try.func13 laidOut
    (ChangeSpec.witness6 (enc := enc) (C := Try.checked) false ⟨#[], #[.int .i64 0, .int .i64 0, .agg #[.int .u64 0, .int .u64 0]], []⟩ 8 (by kernel_rfl) (by kernel_rfl) (by kernel_rfl) (by kernel_rfl))
    (tys := [.int .i64, .int .i64, .pair (.int .u64) (.int .u64)]) (by kernel_rfl) (by kernel_rfl) (tb := 4) (by kernel_rfl) (by kernel_rfl) rfl (fun ds hl => by
      change ds.length = 3 at hl
      match ds, hl with
      | [d1, d2, d3], _ => rfl) pOrdkeyNumbers
theorem ordkeyNumbers_holds : Rows.OrdkeyNumbersSaid :=
  OpenClaim.holds_of_wide 13 Try.f13 rfl rfl rfl rfl rfl rfl rfl ⟨rfl, rfl, rfl, rfl, rfl⟩ rfl rfl rfl rfl rfl (by kernel_rfl) Try.func13 (by kernel_rfl)
    (of_decide_eq_true (by kernel_rfl)) (by unfold Func.isWrapper; first | (rw [if_pos (by decide +kernel)]; kernel_rfl) | (rw [if_neg (by decide +kernel)]; exact ⟨rfl, rfl⟩))
    (fun os started H enc _ => ordkeyNumbers_lifted os started H enc)
end Go.Proofs.Ytiklpaemkeadjaa
