import Derived.Test.YtlfehkoklgmjjaaG6


set_option linter.unusedVariables false
set_option linter.unusedSimpArgs false
set_option maxRecDepth 8000
set_option maxHeartbeats 4000000
namespace Go.Proofs.Ytlfehkoklgmjjaa
open Go.Eng
def sAwake19 : PSpec := ⟨[], [⟨false, [.d .bool]⟩], fun _ => True, fun _ => ((true, ()), ())⟩
theorem fAwake19 : FnOk Try.prog 61 := ⟨_, Try.func61, by decide, rfl⟩
theorem pAwake19 : PSound Try.prog 61 sAwake19 := by
  refine psound (T := tab) (S := (spOf [(62, sLeaves.spec (lsOf [])), (71, sGroups.spec (lsOf [])), (67, sPlan.spec (lsOf [])), (69, sHeight.spec (lsOf [])), (64, sSeps.spec (lsOf []))])) (keep := k61) (by kernel_rfl) tabOk (spCons (pOk pLeaves fLeaves (by decide) lsNil) (spCons (pOk pGroups fGroups (by decide) lsNil) (spCons (pOk pPlan fPlan (by decide) lsNil) (spCons (pOk pHeight fHeight (by decide) lsNil) (spCons (pOk pSeps fSeps (by decide) lsNil) spNil))))) (by kernel_rfl) Try.func61 (by kernel_rfl) (by decide) fun xs hg hp => ?_
  obtain ⟨⟩ := xs
  show vfun tab _ k61 Try.f61 [] [] _
  refine Ev.out ?_
  repeat' (first | ((with_reducible refine Ev.mk ?_); conv => whnf) | (with_reducible refine And.intro ?_ ?_) | (intro h; first | exact absurd h (by decide +kernel) | skip))
  all_goals try exact leafDraw (by kernel_rfl)
  all_goals try exact Leaf.mk (by decide +kernel)
  all_goals try exact Leaf.mk trivial
  all_goals try (refine Leaf.mk (show List.length _ ≤ 100000 from ?_); decide +kernel)
  all_goals try (refine Leaf.mk (show List.length _ ≤ 1000000 from ?_); decide +kernel)
  exact Leaf.mk rfl
end Go.Proofs.Ytlfehkoklgmjjaa
