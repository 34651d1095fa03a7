import Derived.Test.YtcgfolhnoggjfaaJ12



set_option linter.unusedVariables false
set_option linter.unusedSimpArgs false
set_option maxRecDepth 8000
set_option maxHeartbeats 4000000
namespace Go.Proofs.Ytcgfolhnoggjfaa
open Go.Eng
def sSampleCounts : PSpec := lawSpec [StrsT, .slice PairT, CntsT]
theorem fSampleCounts : FnOk Try.prog 4 := ⟨_, Try.func4, by decide, rfl⟩
theorem pSampleCounts : PSound Try.prog 4 sSampleCounts := by
  refine psound (T := tab) (S := (spOf [(23, sLightC.spec (lsOf [])), (13, sAwake33.spec (lsOf [])), (24, sOwnC.spec (lsOf [])), (25, sSameC.spec (lsOf [])), (26, sCounts.spec (lsOf [])), (27, sCountsR.spec (lsOf [])), (28, sSkew.spec (lsOf [])), (29, sSkewR.spec (lsOf [])), (30, sMerge.spec (lsOf [])), (31, sMergeR.spec (lsOf [])), (32, sLevel.spec (lsOf [])), (33, sLevelR.spec (lsOf []))])) (keep := k4) (by kernel_rfl) tabOk (spCons (pOk pLightC fLightC (by decide) lsNil) (spCons (pOk pAwake33 fAwake33 (by decide) lsNil) (spCons (pOk pOwnC fOwnC (by decide) lsNil) (spCons (pOk pSameC fSameC (by decide) lsNil) (spCons (pOk pCounts fCounts (by decide) lsNil) (spCons (pOk pCountsR fCountsR (by decide) lsNil) (spCons (pOk pSkew fSkew (by decide) lsNil) (spCons (pOk pSkewR fSkewR (by decide) lsNil) (spCons (pOk pMerge fMerge (by decide) lsNil) (spCons (pOk pMergeR fMergeR (by decide) lsNil) (spCons (pOk pLevel fLevel (by decide) lsNil) (spCons (pOk pLevelR fLevelR (by decide) lsNil) spNil)))))))))))) (by kernel_rfl) Try.func4 (by kernel_rfl) (by decide) fun xs hg hp => ?_
  obtain ⟨pv, l, c, ⟨⟩⟩ := xs
  change List Str at pv
  change List Pr at l
  change List Cnt at c
  clear hg hp
  show vfun tab _ k4 Try.f4 [.sl .str pv, .sl PairT l, .sl CntT c] [] _
  refine Ev.out ?_
  repeat' (first | ((with_reducible refine Ev.mk ?_); conv => whnf) | (with_reducible refine And.intro ?_ ?_) | (intro h))
  all_goals (try simp only [decide_eq_true_eq, decide_eq_false_iff_not, beq_iff_eq, bne_iff_ne, beq_eq_false_iff_ne, bne_eq_false_iff_eq, Int.toNat_natCast, ge_iff_le, gt_iff_lt, Bool.not_eq_true', Bool.not_eq_false', Int.not_lt, Int.not_le, ne_eq] at *)
  all_goals (try dsimp only [Ty.den, Ty.dflt, CntT, sLightC] at *)
  all_goals (try simp only [eq4, ne4, eq3, ne3, eq2, ne2, Prod.eta, List.length_cons, List.length_nil, List.length_append, Nat.zero_add] at *)
  all_goals (try simp (disch := omega) only [wrap64] at *)
  all_goals try first | exact leafDraw (by kernel_rfl) | exact Leaf.mk trivial | (refine Leaf.mk ?_; omega) | (refine Leaf.mk ?_; unfold maxLen; omega)
  all_goals try exact Leaf.mk rfl
  all_goals
    have hlc := lightC_of ‹lightC c = true›
    try rw [show (sOwnC.fn (c, ())).1.1 = c from rfl] at *
  all_goals first
    | exact Leaf.mk (show c.length ≤ 100000 by omega)
    | exact Leaf.mk (show pv.length ≤ 100000 ∧ l.length ≤ 100000 by omega)
    | exact Leaf.mk (show bdK c ∧ c.length ≤ 100000 from ⟨hlc.2, by omega⟩)
    | exact absurd rfl ‹¬ (sSkew.fn (c, ())).1.1 = (sSkewR.fn (c, ())).1.1›
    | exact sameC_self (show sameC c c = false from ‹_›)
    | exact sameC_self (show sameC (countsF pv l) (countsF pv l) = false from ‹_›)
    | exact sameC_self (show sameC (mergeF c ((l.length : Int) - 1)) (mergeF c ((l.length : Int) - 1)) = false from ‹_›)
    | exact sameC_self (show sameC (levelF c (3 * (pv.length : Int))) (levelF c (3 * (pv.length : Int))) = false from ‹_›)
end Go.Proofs.Ytcgfolhnoggjfaa
