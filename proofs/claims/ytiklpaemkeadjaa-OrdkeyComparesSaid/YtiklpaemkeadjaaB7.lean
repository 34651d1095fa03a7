import Derived.Test.YtiklpaemkeadjaaB6


set_option linter.unusedVariables false
set_option linter.unusedSimpArgs false
namespace Go.Proofs.Ytiklpaemkeadjaa
open Go.Eng
def sOrdkeyInts : PSpec := lawSpec [.int .i64, BT]
theorem fOrdkeyInts : FnOk Try.prog 8 := ⟨_, Try.func8, by decide, rfl⟩
theorem pOrdkeyInts : PSound Try.prog 8 sOrdkeyInts := by
  refine psound (T := tab) (S := (spOf [(35, sAwake01.spec (lsOf [])), (40, sGetInt.spec (lsOf [])), (41, sGetIntR.spec (lsOf [])), (42, sPutInt.spec (lsOf [])), (43, sPutIntR.spec (lsOf []))])) (keep := k8) (by kernel_rfl) tabOk (spCons (pOk pAwake01 fAwake01 (by decide) lsNil) (spCons (pOk pGetInt fGetInt (by decide) lsNil) (spCons (pOk pGetIntR fGetIntR (by decide) lsNil) (spCons (pOk pPutInt fPutInt (by decide) lsNil) (spCons (pOk pPutIntR fPutIntR (by decide) lsNil) spNil))))) (by kernel_rfl) Try.func8 (by kernel_rfl) (by decide) fun xs hg hp => ?_
  obtain ⟨n, b, ⟨⟩⟩ := xs
  change Int at n
  change List Int at b
  show vfun tab _ k8 Try.f8 [.i .i64 n, .sl (.int .u8) b] [] _
  refine Ev.out ?_
  repeat' (first | ((with_reducible refine Ev.mk ?_); conv => whnf) | (with_reducible refine And.intro ?_ ?_) | (intro h))
  all_goals first
    | exact Leaf.mk trivial
    | exact leafDraw (by kernel_rfl)
    | exact Leaf.mk rfl
    | exact eqSelf h
def sOrdkeySmalls : PSpec := lawSpec [.int .u64, BT]
theorem fOrdkeySmalls : FnOk Try.prog 12 := ⟨_, Try.func12, by decide, rfl⟩
theorem pOrdkeySmalls : PSound Try.prog 12 sOrdkeySmalls := by
  refine psound (T := tab) (S := (spOf [(35, sAwake01.spec (lsOf [])), (49, sGetSmall.spec (lsOf [])), (50, sGetSmallR.spec (lsOf [])), (51, sPutSmall.spec (lsOf [])), (52, sPutSmallR.spec (lsOf []))])) (keep := k12) (by kernel_rfl) tabOk (spCons (pOk pAwake01 fAwake01 (by decide) lsNil) (spCons (pOk pGetSmall fGetSmall (by decide) lsNil) (spCons (pOk pGetSmallR fGetSmallR (by decide) lsNil) (spCons (pOk pPutSmall fPutSmall (by decide) lsNil) (spCons (pOk pPutSmallR fPutSmallR (by decide) lsNil) spNil))))) (by kernel_rfl) Try.func12 (by kernel_rfl) (by decide) fun xs hg hp => ?_
  obtain ⟨n, b, ⟨⟩⟩ := xs
  change Int at n
  change List Int at b
  show vfun tab _ k12 Try.f12 [.i .u64 n, .sl (.int .u8) b] [] _
  refine Ev.out ?_
  repeat' (first | ((with_reducible refine Ev.mk ?_); conv => whnf) | (with_reducible refine And.intro ?_ ?_) | (intro h))
  all_goals first
    | exact Leaf.mk trivial
    | exact leafDraw (by kernel_rfl)
    | exact Leaf.mk rfl
    | exact eqSelf h
def sOrdkeyTexts : PSpec := lawSpec [.str, BT]
theorem fOrdkeyTexts : FnOk Try.prog 7 := ⟨_, Try.func7, by decide, rfl⟩
theorem pOrdkeyTexts : PSound Try.prog 7 sOrdkeyTexts := by
  refine psound (T := tab) (S := (spOf [(35, sAwake01.spec (lsOf [])), (36, sGetText.spec (lsOf [])), (37, sGetTextR.spec (lsOf [])), (38, sPutText.spec (lsOf [])), (39, sPutTextR.spec (lsOf []))])) (keep := k7) (by kernel_rfl) tabOk (spCons (pOk pAwake01 fAwake01 (by decide) lsNil) (spCons (pOk pGetText fGetText (by decide) lsNil) (spCons (pOk pGetTextR fGetTextR (by decide) lsNil) (spCons (pOk pPutText fPutText (by decide) lsNil) (spCons (pOk pPutTextR fPutTextR (by decide) lsNil) spNil))))) (by kernel_rfl) Try.func7 (by kernel_rfl) (by decide) fun xs hg hp => ?_
  obtain ⟨s, b, ⟨⟩⟩ := xs
  change List UInt8 at s
  change List Int at b
  show vfun tab _ k7 Try.f7 [.s s, .sl (.int .u8) b] [] _
  refine Ev.out ?_
  repeat' (first | ((with_reducible refine Ev.mk ?_); conv => whnf) | (with_reducible refine And.intro ?_ ?_) | (intro h))
  all_goals first
    | exact Leaf.mk trivial
    | exact leafDraw (by kernel_rfl)
    | exact Leaf.mk rfl
    | exact eqSelf h
    | exact Leaf.mk (show b.length ≤ 100000 by have := of_decide_eq_false h; omega)
    | exact Leaf.mk (show s.length ≤ 100000 by rename_i h'; have := of_decide_eq_false h'; omega)
end Go.Proofs.Ytiklpaemkeadjaa
