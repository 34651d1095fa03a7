import Derived.Test.YtiklpaemkeadjaaA3

set_option linter.unusedVariables false
set_option linter.unusedSimpArgs false
namespace Go.Proofs.Ytiklpaemkeadjaa
open Go.Eng
def sAwake13 : PSpec := ⟨[], [⟨false, [.d .bool]⟩], fun _ => True, fun _ => ((true, ()), ())⟩
theorem fAwake13 : FnOk Try.prog 16 := ⟨_, Try.func16, by decide, rfl⟩
theorem pAwake13 : PSound Try.prog 16 sAwake13 := by
  refine psound (T := tab) (S := (spOf [(17, sRead.spec (lsOf [])), (28, sScan.spec (lsOf [])), (19, sWhich.spec (lsOf [])), (21, sNewer.spec (lsOf [])), (23, sRoom.spec (lsOf [])), (25, sSettled.spec (lsOf []))])) (keep := k16) (by kernel_rfl) tabOk (spCons (pOk pRead fRead (by decide) lsNil) (spCons (pOk pScan fScan (by decide) lsNil) (spCons (pOk pWhich fWhich (by decide) lsNil) (spCons (pOk pNewer fNewer (by decide) lsNil) (spCons (pOk pRoom fRoom (by decide) lsNil) (spCons (pOk pSettled fSettled (by decide) lsNil) spNil)))))) (by kernel_rfl) Try.func16 (by kernel_rfl) (by decide) fun xs hg hp => ?_
  obtain ⟨⟩ := xs
  show vfun tab _ k16 Try.f16 [] [] _
  refine Ev.out ?_
  repeat' (first | ((with_reducible refine Ev.mk ?_); conv => whnf) | (with_reducible refine And.intro ?_ ?_) | (intro h; first | exact absurd h (by decide +kernel) | skip))
  all_goals first
    | exact Leaf.mk trivial
    | exact Leaf.mk (show (1 : Nat) ≤ 1000 by decide)
    | exact Leaf.mk rfl
    | exact Leaf.mk (by decide +kernel)
end Go.Proofs.Ytiklpaemkeadjaa
