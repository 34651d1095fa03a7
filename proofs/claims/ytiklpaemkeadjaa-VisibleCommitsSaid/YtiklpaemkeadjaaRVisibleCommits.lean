/- The law VisibleCommits returns true at every input that can be read, and leaves its arguments as they were. No condition. -/
import Derived.Test.YtiklpaemkeadjaaC8
import Derived.Test.YtiklpaemkeadjaaRows
import Derived.ProofKit
set_option linter.unusedVariables false
namespace Go.Proofs.Ytiklpaemkeadjaa
open Go.Eng
open Go.ChangeShapes Go.WideShapes Go.ChangeAt Go.RowKit
theorem own : ownKnob Try.prog.godebug = none := by kernel_rfl
theorem laidOut : laidOutB Try.prog = true := by kernel_rfl
set_option maxRecDepth 100000
theorem visibleCommits_lifted (os : Os) (started : os.Started) (H : Type) (enc : TypeId × Value → H) :
    ReturnsInHanded {} Try.checked os 6 .any (Rows.visibleCommitsSpec.pre6 enc Try.prog Try.f6 Rows.visibleCommitsRow.domain false) (Rows.visibleCommitsSpec.post enc Try.prog Try.f6 false true false false) :=
  law_row (C := Try.checked) own started (by kernel_rfl) Try.func6 laidOut
    (ChangeSpec.witness6 (enc := enc) (C := Try.checked) false ⟨#[], #[.agg #[.string ⟨⟨[]⟩⟩, .slice none 0 0], .agg #[.int .i64 0, .int .i64 0, .bool false, .string ⟨⟨[]⟩⟩], .int .i64 0], []⟩ 8 (by kernel_rfl) (by kernel_rfl) (by kernel_rfl) (by kernel_rfl))
    (tys := [StT, VerT, .int .i64]) (by kernel_rfl) (by kernel_rfl) (tb := 4) (by kernel_rfl) (by kernel_rfl) rfl (fun ds hl => by
      change ds.length = 3 at hl
      match ds, hl with
      | [d1, d2, d3], _ => rfl) pVisibleCommits
theorem visibleCommits_holds : Rows.VisibleCommitsSaid :=
  OpenClaim.holds_of_wide 6 Try.f6 rfl rfl rfl rfl rfl rfl rfl ⟨rfl, rfl, rfl, rfl, rfl⟩ rfl rfl rfl rfl rfl (by kernel_rfl) Try.func6 (by kernel_rfl)
    (of_decide_eq_true (by kernel_rfl)) (by unfold Func.isWrapper; first | (rw [if_pos (by decide +kernel)]; kernel_rfl) | (rw [if_neg (by decide +kernel)]; exact ⟨rfl, rfl⟩))
    (fun os started H enc _ => visibleCommits_lifted os started H enc)
end Go.Proofs.Ytiklpaemkeadjaa
