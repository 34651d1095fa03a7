import Derived.Test.YtjifalccioebnaaQ12
import Derived.Test.YtjifalccioebnaaRows
import Derived.ProofKit
/- The law InnerChanges returns true at every input that can be read, and leaves its arguments as they were. No condition. -/
set_option linter.unusedVariables false
namespace Go.Proofs.Ytjifalccioebnaa
open Go.Eng
open Go.ChangeShapes Go.WideShapes Go.ChangeAt Go.RowKit
theorem own : ownKnob Try.prog.godebug = none := by kernel_rfl
theorem laidOut : laidOutB Try.prog = true := by kernel_rfl
set_option maxRecDepth 100000
theorem innerChanges_lifted (os : Os) (started : os.Started) (H : Type) (enc : TypeId × Value → H) :
    ReturnsInHanded {} Try.checked os 3 .any (Rows.innerChangesSpec.pre6 enc Try.prog Try.f3 Rows.innerChangesRow.domain false) (Rows.innerChangesSpec.post enc Try.prog Try.f3 false true false false) :=
  law_row (C := Try.checked) own started (by kernel_rfl) Try.func3 laidOut
    (ChangeSpec.witness6 (enc := enc) (C := Try.checked) false ⟨#[], #[.agg #[.slice none 0 0, .slice none 0 0, .slice none 0 0], .agg #[.int .u8 0, .string ⟨⟨[]⟩⟩, .int .i64 0, .int .i64 0, .bool false, .string ⟨⟨[]⟩⟩], .agg #[.int .i64 0, .int .i64 0]], []⟩ 8 (by kernel_rfl) (by kernel_rfl) (by kernel_rfl) (by kernel_rfl))
    (tys := [InT, MsgT, AtT]) (by kernel_rfl) (by kernel_rfl) (tb := 4) (by kernel_rfl) (by kernel_rfl) rfl (fun ds hl => by
      change ds.length = 3 at hl
      match ds, hl with
      | [d1, d2, d3], _ => rfl) pInnerChanges
theorem innerChanges_holds : Rows.InnerChangesSaid :=
  OpenClaim.holds_of_wide 3 Try.f3 rfl rfl rfl rfl rfl rfl rfl ⟨rfl, rfl, rfl, rfl, rfl⟩ rfl rfl rfl rfl rfl (by kernel_rfl) Try.func3 (by kernel_rfl)
    (of_decide_eq_true (by kernel_rfl)) (by unfold Func.isWrapper; first | (rw [if_pos (by decide +kernel)]; kernel_rfl) | (rw [if_neg (by decide +kernel)]; exact ⟨rfl, rfl⟩))
    (fun os started H enc _ => innerChanges_lifted os started H enc)
end Go.Proofs.Ytjifalccioebnaa
