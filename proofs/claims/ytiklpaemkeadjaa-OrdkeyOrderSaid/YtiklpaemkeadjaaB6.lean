import Derived.Test.YtiklpaemkeadjaaB5


set_option linter.unusedVariables false
set_option linter.unusedSimpArgs false
namespace Go.Proofs.Ytiklpaemkeadjaa
open Go.Eng
def sCompare : PSpec := sCompareB
theorem fCompare : FnOk Try.prog 46 := ⟨_, Try.func46, by decide, rfl⟩
theorem pCompare : PSound Try.prog 46 sCompare := by
  refine psound (T := tab) (S := (spOf [(75, sCompareB.spec (lsOf []))])) (keep := k46) (by kernel_rfl) tabOk (spCons (pOk pCompareB fCompareB (by decide) lsNil) spNil) (by kernel_rfl) Try.func46 (by kernel_rfl) (by decide) fun xs hg hp => ?_
  obtain ⟨xs, ys, ⟨⟩⟩ := xs
  show vfun tab _ k46 Try.f46 [.sl (.int .u8) xs, .sl (.int .u8) ys] [] _
  refine Ev.out ?_
  repeat' (first | ((with_reducible refine Ev.mk ?_); conv => whnf) | (with_reducible refine And.intro ?_ ?_) | (intro h))
  all_goals first | exact Leaf.mk trivial | exact Leaf.mk rfl
def sAwake01 : PSpec := ⟨[], [⟨false, [.d .bool]⟩], fun _ => True, fun _ => ((true, ()), ())⟩
theorem fAwake01 : FnOk Try.prog 35 := ⟨_, Try.func35, by decide, rfl⟩
theorem pAwake01 : PSound Try.prog 35 sAwake01 := by
  refine psound (T := tab) (S := (spOf [(36, sGetText.spec (lsOf [])), (49, sGetSmall.spec (lsOf [])), (42, sPutInt.spec (lsOf [])), (40, sGetInt.spec (lsOf [])), (44, sBehind.spec (lsOf [])), (65, sNew.spec (lsOf [])), (38, sPutText.spec (lsOf [])), (46, sCompare.spec (lsOf [])), (66, sText.spec), (67, sSmall.spec), (68, sDone.spec)])) (keep := k35) (by kernel_rfl) tabOk (spCons (pOk pGetText fGetText (by decide) lsNil) (spCons (pOk pGetSmall fGetSmall (by decide) lsNil) (spCons (pOk pPutInt fPutInt (by decide) lsNil) (spCons (pOk pGetInt fGetInt (by decide) lsNil) (spCons (pOk pBehind fBehind (by decide) lsNil) (spCons (.inl ⟨nOk lsNil pNew, fNew⟩) (spCons (pOk pPutText fPutText (by decide) lsNil) (spCons (pOk pCompare fCompare (by decide) lsNil) (spCons (.inl ⟨pText, fText⟩) (spCons (.inl ⟨pSmall, fSmall⟩) (spCons (.inl ⟨pDone, fDone⟩) spNil))))))))))) (by kernel_rfl) Try.func35 (by kernel_rfl) (by decide) fun xs hg hp => ?_
  obtain ⟨⟩ := xs
  show vfun tab _ k35 Try.f35 [] [] _
  refine Ev.out ?_
  repeat' (first | ((with_reducible refine Ev.mk ?_); conv => whnf) | (with_reducible refine And.intro ?_ ?_) | (intro h; first | exact absurd h (by decide +kernel) | skip))
  all_goals first
    | exact Leaf.mk trivial
    | exact Leaf.mk rfl
    | exact Leaf.mk (by decide +kernel)
    | (refine Leaf.mk (show (_ : Nat) ≤ _ from ?_); decide +kernel)
end Go.Proofs.Ytiklpaemkeadjaa
