import Derived.Test.YtoedpnniaikfbaaQ10
import Derived.Test.YtoedpnniaikfbaaRows
import Derived.ProofKit
/- The law InnerHalves returns true at every input that can be read, and leaves its arguments as they were. No condition. -/
set_option linter.unusedVariables false
namespace Go.Proofs.Ytoedpnniaikfbaa
open Go.Eng
open Go.ChangeShapes Go.WideShapes Go.ChangeAt Go.RowKit
theorem own : ownKnob Try.prog.godebug = none := by kernel_rfl
theorem laidOut : laidOutB Try.prog = true := by kernel_rfl
set_option maxRecDepth 100000
theorem innerHalves_lifted (os : Os) (started : os.Started) (H : Type) (enc : TypeId × Value → H) :
    ReturnsInHanded {} Try.checked os 12 .any (Rows.innerHalvesSpec.pre6 enc Try.prog Try.f12 Rows.innerHalvesRow.domain false) (Rows.innerHalvesSpec.post enc Try.prog Try.f12 false true false false) :=
  law_row (C := Try.checked) own started (by kernel_rfl) Try.func12 laidOut
    (ChangeSpec.witness6 (enc := enc) (C := Try.checked) false ⟨#[], #[.agg #[.slice none 0 0, .slice none 0 0, .slice none 0 0], .string ⟨⟨[]⟩⟩], []⟩ 8 (by kernel_rfl) (by kernel_rfl) (by kernel_rfl) (by kernel_rfl))
    (tys := [InT, .str]) (by kernel_rfl) (by kernel_rfl) (tb := 4) (by kernel_rfl) (by kernel_rfl) rfl (fun ds hl => by
      change ds.length = 2 at hl
      match ds, hl with
      | [d1, d2], _ => rfl) pInnerHalves
theorem innerHalves_holds : Rows.InnerHalvesSaid :=
  OpenClaim.holds_of_wide 12 Try.f12 rfl rfl rfl rfl rfl rfl rfl ⟨rfl, rfl, rfl, rfl, rfl⟩ rfl rfl rfl rfl rfl (by kernel_rfl) Try.func12 (by kernel_rfl)
    (of_decide_eq_true (by kernel_rfl)) (by unfold Func.isWrapper; first | (rw [if_pos (by decide +kernel)]; kernel_rfl) | (rw [if_neg (by decide +kernel)]; exact ⟨rfl, rfl⟩))
    (fun os started H enc _ => innerHalves_lifted os started H enc)
end Go.Proofs.Ytoedpnniaikfbaa
