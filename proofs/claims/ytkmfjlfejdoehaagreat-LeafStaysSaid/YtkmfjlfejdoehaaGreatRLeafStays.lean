import Derived.Test.YtkmfjlfejdoehaaGreatQ11
import Derived.Test.YtkmfjlfejdoehaaGreatRows
import Derived.ProofKit
/- The law LeafStays returns true at every input that can be read, and leaves its arguments as they were. No condition. -/
set_option linter.unusedVariables false
namespace Go.Proofs.YtkmfjlfejdoehaaGreat
open Go.Eng
open Go.ChangeShapes Go.WideShapes Go.ChangeAt Go.RowKit
theorem own : ownKnob Tryz.prog.godebug = none := by kernel_rfl
theorem laidOut : laidOutB Tryz.prog = true := by kernel_rfl
set_option maxRecDepth 100000
theorem leafStays_lifted (os : Os) (started : os.Started) (H : Type) (enc : TypeId × Value → H) :
    ReturnsInHanded {} Tryz.checked os 6 .any (Rows.leafStaysSpec.pre6 enc Tryz.prog Tryz.f6 Rows.leafStaysRow.domain false) (Rows.leafStaysSpec.post enc Tryz.prog Tryz.f6 false true false false) :=
  law_row (C := Tryz.checked) own started (by kernel_rfl) Tryz.func6 laidOut
    (ChangeSpec.witness6 (enc := enc) (C := Tryz.checked) false ⟨#[], #[.slice none 0 0, .slice none 0 0], []⟩ 8 (by kernel_rfl) (by kernel_rfl) (by kernel_rfl) (by kernel_rfl))
    (tys := [SsT, MsT]) (by kernel_rfl) (by kernel_rfl) (tb := 4) (by kernel_rfl) (by kernel_rfl) rfl (fun ds hl => by
      change ds.length = 2 at hl
      match ds, hl with
      | [d1, d2], _ => rfl) pLeafStays
theorem leafStays_holds : Rows.LeafStaysSaid :=
  OpenClaim.holds_of_wide 6 Tryz.f6 rfl rfl rfl rfl rfl rfl rfl ⟨rfl, rfl, rfl, rfl, rfl⟩ rfl rfl rfl rfl rfl (by kernel_rfl) Tryz.func6 (by kernel_rfl)
    (of_decide_eq_true (by kernel_rfl)) (by unfold Func.isWrapper; first | (rw [if_pos (by decide +kernel)]; kernel_rfl) | (rw [if_neg (by decide +kernel)]; exact ⟨rfl, rfl⟩))
    (fun os started H enc _ => leafStays_lifted os started H enc)
end Go.Proofs.YtkmfjlfejdoehaaGreat
