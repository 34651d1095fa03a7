import Derived.Test.YtcgfolhnoggjfaaQ7
import Derived.Test.YtcgfolhnoggjfaaRows
import Derived.ProofKit
/- The law WalrecBack returns true at every input that can be read, and leaves its arguments as they were. No condition. -/
set_option linter.unusedVariables false
namespace Go.Proofs.Ytcgfolhnoggjfaa
open Go.Eng
open Go.ChangeShapes Go.WideShapes Go.ChangeAt Go.RowKit
theorem own : ownKnob Try.prog.godebug = none := by kernel_rfl
theorem laidOut : laidOutB Try.prog = true := by kernel_rfl
set_option maxRecDepth 100000
theorem walrecBack_lifted (os : Os) (started : os.Started) (H : Type) (enc : TypeId × Value → H) :
    ReturnsInHanded {} Try.checked os 11 .any (Rows.walrecBackSpec.pre6 enc Try.prog Try.f11 Rows.walrecBackRow.domain false) (Rows.walrecBackSpec.post enc Try.prog Try.f11 false true false false) :=
  law_row (C := Try.checked) own started (by kernel_rfl) Try.func11 laidOut
    (ChangeSpec.witness6 (enc := enc) (C := Try.checked) false ⟨#[], #[.agg #[.int .u8 0, .int .i64 0, .int .i64 0, .string ⟨⟨[]⟩⟩, .bool false, .string ⟨⟨[]⟩⟩], .agg #[.int .u8 0, .int .i64 0, .int .i64 0, .string ⟨⟨[]⟩⟩, .bool false, .string ⟨⟨[]⟩⟩]], []⟩ 8 (by kernel_rfl) (by kernel_rfl) (by kernel_rfl) (by kernel_rfl))
    (tys := [RecT, RecT]) (by kernel_rfl) (by kernel_rfl) (tb := 4) (by kernel_rfl) (by kernel_rfl) rfl (fun ds hl => by
      change ds.length = 2 at hl
      match ds, hl with
      | [d1, d2], _ => rfl) pWalrecBack
theorem walrecBack_holds : Rows.WalrecBackSaid :=
  OpenClaim.holds_of_wide 11 Try.f11 rfl rfl rfl rfl rfl rfl rfl ⟨rfl, rfl, rfl, rfl, rfl⟩ rfl rfl rfl rfl rfl (by kernel_rfl) Try.func11 (by kernel_rfl)
    (of_decide_eq_true (by kernel_rfl)) (by unfold Func.isWrapper; first | (rw [if_pos (by decide +kernel)]; kernel_rfl) | (rw [if_neg (by decide +kernel)]; exact ⟨rfl, rfl⟩))
    (fun os started H enc _ => walrecBack_lifted os started H enc)
end Go.Proofs.Ytcgfolhnoggjfaa
