/- The law MsgBack returns true at every input that can be read, and leaves its arguments as they were. No condition. -/
import Derived.Test.YtoedpnniaikfbaaH15
import Derived.Test.YtoedpnniaikfbaaRows
import Derived.ProofKit
set_option linter.unusedVariables false
namespace Go.Proofs.Ytoedpnniaikfbaa
open Go.Eng
open Go.ChangeShapes Go.WideShapes Go.ChangeAt Go.RowKit
theorem own : ownKnob Try.prog.godebug = none := by kernel_rfl
theorem laidOut : laidOutB Try.prog = true := by kernel_rfl
set_option maxRecDepth 100000
theorem msgBack_lifted (os : Os) (started : os.Started) (H : Type) (enc : TypeId × Value → H) :
    ReturnsInHanded {} Try.checked os 6 .any (Rows.msgBackSpec.pre6 enc Try.prog Try.f6 Rows.msgBackRow.domain false) (Rows.msgBackSpec.post enc Try.prog Try.f6 false true false false) :=
  law_row (C := Try.checked) own started (by kernel_rfl) Try.func6 laidOut
    (ChangeSpec.witness6 (enc := enc) (C := Try.checked) false ⟨#[], #[.slice none 0 0, .slice none 0 0], []⟩ 8 (by kernel_rfl) (by kernel_rfl) (by kernel_rfl) (by kernel_rfl))
    (tys := [MsT, BT]) (by kernel_rfl) (by kernel_rfl) (tb := 4) (by kernel_rfl) (by kernel_rfl) rfl (fun ds hl => by
      change ds.length = 2 at hl
      match ds, hl with
      | [d1, d2], _ => rfl) pMsgBack
theorem msgBack_holds : Rows.MsgBackSaid :=
  OpenClaim.holds_of_wide 6 Try.f6 rfl rfl rfl rfl rfl rfl rfl ⟨rfl, rfl, rfl, rfl, rfl⟩ rfl rfl rfl rfl rfl (by kernel_rfl) Try.func6 (by kernel_rfl)
    (of_decide_eq_true (by kernel_rfl)) (by unfold Func.isWrapper; first | (rw [if_pos (by decide +kernel)]; kernel_rfl) | (rw [if_neg (by decide +kernel)]; exact ⟨rfl, rfl⟩))
    (fun os started H enc _ => msgBack_lifted os started H enc)
end Go.Proofs.Ytoedpnniaikfbaa
