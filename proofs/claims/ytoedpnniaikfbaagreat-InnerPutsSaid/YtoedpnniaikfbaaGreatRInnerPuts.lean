import Derived.Test.YtoedpnniaikfbaaGreatQ11
import Derived.Test.YtoedpnniaikfbaaGreatRows
import Derived.ProofKit
/- The law InnerPuts returns true at every input that can be read, and leaves its arguments as they were. No condition. -/
set_option linter.unusedVariables false
namespace Go.Proofs.YtoedpnniaikfbaaGreat
open Go.Eng
open Go.ChangeShapes Go.WideShapes Go.ChangeAt Go.RowKit
theorem own : ownKnob Tryz.prog.godebug = none := by kernel_rfl
theorem laidOut : laidOutB Tryz.prog = true := by kernel_rfl
set_option maxRecDepth 100000
theorem innerPuts_lifted (os : Os) (started : os.Started) (H : Type) (enc : TypeId × Value → H) :
    ReturnsInHanded {} Tryz.checked os 3 .any (Rows.innerPutsSpec.pre6 enc Tryz.prog Tryz.f3 Rows.innerPutsRow.domain false) (Rows.innerPutsSpec.post enc Tryz.prog Tryz.f3 false true false false) :=
  law_row (C := Tryz.checked) own started (by kernel_rfl) Tryz.func3 laidOut
    (ChangeSpec.witness6 (enc := enc) (C := Tryz.checked) false ⟨#[], #[.agg #[.slice none 0 0, .slice none 0 0, .slice none 0 0], .agg #[.slice none 0 0, .slice none 0 0, .slice none 0 0], .slice none 0 0], []⟩ 8 (by kernel_rfl) (by kernel_rfl) (by kernel_rfl) (by kernel_rfl))
    (tys := [InT, InT, BT]) (by kernel_rfl) (by kernel_rfl) (tb := 4) (by kernel_rfl) (by kernel_rfl) rfl (fun ds hl => by
      change ds.length = 3 at hl
      match ds, hl with
      | [d1, d2, d3], _ => rfl) pInnerPuts
theorem innerPuts_holds : Rows.InnerPutsSaid :=
  OpenClaim.holds_of_wide 3 Tryz.f3 rfl rfl rfl rfl rfl rfl rfl ⟨rfl, rfl, rfl, rfl, rfl⟩ rfl rfl rfl rfl rfl (by kernel_rfl) Tryz.func3 (by kernel_rfl)
    (of_decide_eq_true (by kernel_rfl)) (by unfold Func.isWrapper; first | (rw [if_pos (by decide +kernel)]; kernel_rfl) | (rw [if_neg (by decide +kernel)]; exact ⟨rfl, rfl⟩))
    (fun os started H enc _ => innerPuts_lifted os started H enc)
end Go.Proofs.YtoedpnniaikfbaaGreat
