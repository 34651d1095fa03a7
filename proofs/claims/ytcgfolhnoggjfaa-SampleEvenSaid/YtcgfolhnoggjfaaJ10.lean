import Derived.Test.YtcgfolhnoggjfaaJ9



set_option linter.unusedVariables false
set_option linter.unusedSimpArgs false
set_option maxRecDepth 8000
set_option maxHeartbeats 4000000
namespace Go.Proofs.Ytcgfolhnoggjfaa
open Go.Eng
def sAwake33 : PSpec := ⟨[], [⟨false, [.d .bool]⟩], fun _ => True, fun _ => ((true, ()), ())⟩
theorem fAwake33 : FnOk Try.prog 13 := ⟨_, Try.func13, by decide, rfl⟩
theorem pAwake33 : PSound Try.prog 13 sAwake33 := by
  refine psound (T := tab) (S := (spOf [(17, sPivots.spec (lsOf [])), (26, sCounts.spec (lsOf [])), (30, sMerge.spec (lsOf [])), (32, sLevel.spec (lsOf [])), (15, sSorted.spec (lsOf [])), (28, sSkew.spec (lsOf [])), (19, sPlace33.spec (lsOf [])), (21, sBetween.spec (lsOf []))])) (keep := k13) (by kernel_rfl) tabOk (spCons (pOk pPivots fPivots (by decide) lsNil) (spCons (pOk pCounts fCounts (by decide) lsNil) (spCons (pOk pMerge fMerge (by decide) lsNil) (spCons (pOk pLevel fLevel (by decide) lsNil) (spCons (pOk pSorted fSorted (by decide) lsNil) (spCons (pOk pSkew fSkew (by decide) lsNil) (spCons (pOk pPlace33 fPlace33 (by decide) lsNil) (spCons (pOk pBetween fBetween (by decide) lsNil) spNil)))))))) (by kernel_rfl) Try.func13 (by kernel_rfl) (by decide) fun xs hg hp => ?_
  obtain ⟨⟩ := xs
  show vfun tab _ k13 Try.f13 [] [] _
  refine Ev.out ?_
  repeat' (first | ((with_reducible refine Ev.mk ?_); conv => whnf) | (with_reducible refine And.intro ?_ ?_) | (intro h; first | exact absurd h (by decide +kernel) | skip))
  all_goals first
    | exact Leaf.mk trivial
    | exact leafDraw (by kernel_rfl)
    | exact Leaf.mk rfl
    | exact Leaf.mk (by decide +kernel)
    | (refine Leaf.mk (show (_ : Nat) ≤ 100000 from ?_); decide +kernel)
    | (refine Leaf.mk (show (_ : Nat) ≤ 100000 ∧ (_ : Nat) ≤ 100000 from ?_); decide +kernel)
    | (refine Leaf.mk (show (_ : Nat) ≤ 1000 ∧ (_ : Nat) ≤ 1000 from ?_); decide +kernel)
    | (refine Leaf.mk (show bdK _ ∧ (_ : Nat) ≤ 100000 from ?_); unfold bdK; decide +kernel)
    | exact absurd ‹_ = true› (by decide +kernel)
    | (trace_state; sorry)
end Go.Proofs.Ytcgfolhnoggjfaa
