/- The law SampleAll returns true at every input that can be read, and leaves its arguments as they were. No condition. -/
import Derived.Test.YtcgfolhnoggjfaaJ15
import Derived.Test.YtcgfolhnoggjfaaRows
import Derived.ProofKit
set_option linter.unusedVariables false
namespace Go.Proofs.Ytcgfolhnoggjfaa
open Go.Eng
open Go.ChangeShapes Go.WideShapes Go.ChangeAt Go.RowKit
theorem own : ownKnob Try.prog.godebug = none := by kernel_rfl
theorem laidOut : laidOutB Try.prog = true := by kernel_rfl
set_option maxRecDepth 100000
theorem sampleAll_lifted (os : Os) (started : os.Started) (H : Type) (enc : TypeId × Value → H) :
    ReturnsInHanded {} Try.checked os 6 .any (Rows.sampleAllSpec.pre6 enc Try.prog Try.f6 Rows.sampleAllRow.domain false) (Rows.sampleAllSpec.post enc Try.prog Try.f6 false true false false) :=
  law_row (C := Try.checked) own started (by kernel_rfl) Try.func6 laidOut
    (ChangeSpec.witness6 (enc := enc) (C := Try.checked) false ⟨#[], #[.slice none 0 0, .slice none 0 0, .agg #[.int .u8 0, .int .u8 0]], []⟩ 8 (by kernel_rfl) (by kernel_rfl) (by kernel_rfl) (by kernel_rfl))
    (tys := [StrsT, .slice PairT, N2T]) (by kernel_rfl) (by kernel_rfl) (tb := 4) (by kernel_rfl) (by kernel_rfl) rfl (fun ds hl => by
      change ds.length = 3 at hl
      match ds, hl with
      | [d1, d2, d3], _ => rfl) pSampleAll
theorem sampleAll_holds : Rows.SampleAllSaid :=
  OpenClaim.holds_of_wide 6 Try.f6 rfl rfl rfl rfl rfl rfl rfl ⟨rfl, rfl, rfl, rfl, rfl⟩ rfl rfl rfl rfl rfl (by kernel_rfl) Try.func6 (by kernel_rfl)
    (of_decide_eq_true (by kernel_rfl)) (by unfold Func.isWrapper; first | (rw [if_pos (by decide +kernel)]; kernel_rfl) | (rw [if_neg (by decide +kernel)]; exact ⟨rfl, rfl⟩))
    (fun os started H enc _ => sampleAll_lifted os started H enc)
end Go.Proofs.Ytcgfolhnoggjfaa
