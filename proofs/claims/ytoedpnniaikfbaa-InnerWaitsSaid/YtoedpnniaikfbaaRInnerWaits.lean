import Derived.Test.YtoedpnniaikfbaaQ10
import Derived.Test.YtoedpnniaikfbaaRows
import Derived.ProofKit
/- The law InnerWaits returns true at every input that can be read, and leaves its arguments as they were. No condition. -/
set_option linter.unusedVariables false
namespace Go.Proofs.Ytoedpnniaikfbaa
open Go.Eng
open Go.ChangeShapes Go.WideShapes Go.ChangeAt Go.RowKit
theorem own : ownKnob Try.prog.godebug = none := by kernel_rfl
theorem laidOut : laidOutB Try.prog = true := by kernel_rfl
set_option maxRecDepth 100000
theorem innerWaits_lifted (os : Os) (started : os.Started) (H : Type) (enc : TypeId × Value → H) :
    ReturnsInHanded {} Try.checked os 11 .any (Rows.innerWaitsSpec.pre6 enc Try.prog Try.f11 Rows.innerWaitsRow.domain false) (Rows.innerWaitsSpec.post enc Try.prog Try.f11 false true false false) :=
  law_row (C := Try.checked) own started (by kernel_rfl) Try.func11 laidOut
    (ChangeSpec.witness6 (enc := enc) (C := Try.checked) false ⟨#[], #[.agg #[.slice none 0 0, .slice none 0 0, .slice none 0 0], .agg #[.int .u8 0, .string ⟨⟨[]⟩⟩, .int .i64 0, .int .i64 0, .bool false, .string ⟨⟨[]⟩⟩], .string ⟨⟨[]⟩⟩], []⟩ 8 (by kernel_rfl) (by kernel_rfl) (by kernel_rfl) (by kernel_rfl))
    (tys := [InT, MsgT, .str]) (by kernel_rfl) (by kernel_rfl) (tb := 4) (by kernel_rfl) (by kernel_rfl) rfl (fun ds hl => by
      change ds.length = 3 at hl
      match ds, hl with
      | [d1, d2, d3], _ => rfl) pInnerWaits
theorem innerWaits_holds : Rows.InnerWaitsSaid :=
  OpenClaim.holds_of_wide 11 Try.f11 rfl rfl rfl rfl rfl rfl rfl ⟨rfl, rfl, rfl, rfl, rfl⟩ rfl rfl rfl rfl rfl (by kernel_rfl) Try.func11 (by kernel_rfl)
    (of_decide_eq_true (by kernel_rfl)) (by unfold Func.isWrapper; first | (rw [if_pos (by decide +kernel)]; kernel_rfl) | (rw [if_neg (by decide +kernel)]; exact ⟨rfl, rfl⟩))
    (fun os started H enc _ => innerWaits_lifted os started H enc)
end Go.Proofs.Ytoedpnniaikfbaa
