import Derived.Test.YtlfehkoklgmjjaaG7


set_option linter.unusedVariables false
set_option linter.unusedSimpArgs false
set_option maxRecDepth 8000
set_option maxHeartbeats 4000000
namespace Go.Proofs.Ytlfehkoklgmjjaa
open Go.Eng
theorem planF_len : ∀ (f : Nat) (n : Int), (planF f n).length ≤ f
  | 0, n => Nat.le_refl _
  | f + 1, n => by
    rw [planF]
    split
    · have := planF_len f (groups n).length
      simp only [List.length_cons]; omega
    · exact Nat.zero_le _
theorem plan_len (n : Int) : (plan n).length ≤ n.toNat := planF_len _ _
def sBulkPlans : PSpec := lawSpec [.int .i64]
theorem fBulkPlans : FnOk Try.prog 12 := ⟨_, Try.func12, by decide, rfl⟩
theorem pBulkPlans : PSound Try.prog 12 sBulkPlans := by
  refine psound (T := tab) (S := (spOf [(61, sAwake19.spec (lsOf [])), (67, sPlan.spec (lsOf [])), (68, sPlanR.spec (lsOf [])), (69, sHeight.spec (lsOf [])), (70, sSameI.spec (lsOf [])), (71, sGroups.spec (lsOf [])), (72, sGroupsR.spec (lsOf []))])) (keep := k12) (by kernel_rfl) tabOk (spCons (pOk pAwake19 fAwake19 (by decide) lsNil) (spCons (pOk pPlan fPlan (by decide) lsNil) (spCons (pOk pPlanR fPlanR (by decide) lsNil) (spCons (pOk pHeight fHeight (by decide) lsNil) (spCons (pOk pSameI fSameI (by decide) lsNil) (spCons (pOk pGroups fGroups (by decide) lsNil) (spCons (pOk pGroupsR fGroupsR (by decide) lsNil) spNil))))))) (by kernel_rfl) Try.func12 (by kernel_rfl) (by decide) fun xs hg hp => ?_
  obtain ⟨n, ⟨⟩⟩ := xs
  change Int at n
  clear hp hg
  show vfun tab _ k12 Try.f12 [.i .i64 n] [] _
  refine Ev.out ?_
  repeat' (first | ((with_reducible refine Ev.mk ?_); conv => whnf) | (with_reducible refine And.intro ?_ ?_) | (intro h))
  all_goals (try simp only [decide_eq_true_eq, decide_eq_false_iff_not, beq_iff_eq, bne_iff_ne, beq_eq_false_iff_ne, bne_eq_false_iff_eq, Int.toNat_natCast, ge_iff_le, gt_iff_lt, Bool.not_eq_true', Bool.not_eq_false', Int.not_lt, Int.not_le, ne_eq] at *)
  all_goals (try dsimp only [Ty.den, Ty.dflt, IsT] at *)
  all_goals (try simp only [eq4, ne4, eq3, ne3, eq2, ne2, Prod.eta, List.length_cons, List.length_nil, List.length_append, Nat.zero_add] at *)
  all_goals (try simp (disch := omega) only [wrap64] at *)
  all_goals try first | exact leafDraw (by kernel_rfl) | exact Leaf.mk trivial | (refine Leaf.mk ?_; omega) | (refine Leaf.mk ?_; unfold maxLen; omega)
  · exact Leaf.mk rfl
  · exact absurd rfl h
  · exact absurd rfl h
  · exact decSelf h
  have hn : n ≤ 3000 := ‹_›
  have hpl := plan_len n
  rw [show (sPlan.fn (n, ())).1.1 = plan n from rfl, show (sPlanR.fn (n, ())).1.1 = plan n from rfl]
  refine LoopVC.on (fun i : Nat => [(5, .i .i64 i)]) (fun _ => []) (fun i => i ≤ (plan n).length) (fun i => (plan n).length - i) 0 rfl (by omega) ?_
  intro i hi
  repeat' (first | ((with_reducible refine Ev.mk ?_); conv => whnf) | (with_reducible refine And.intro ?_ ?_) | (intro h))
  all_goals (try simp only [decide_eq_true_eq, decide_eq_false_iff_not, beq_iff_eq, bne_iff_ne, beq_eq_false_iff_ne, bne_eq_false_iff_eq, Int.toNat_natCast, ge_iff_le, gt_iff_lt, Bool.not_eq_true', Bool.not_eq_false', Int.not_lt, Int.not_le, ne_eq] at *)
  all_goals (try dsimp only [Ty.den, Ty.dflt, IsT] at *)
  all_goals (try simp only [eq4, ne4, eq3, ne3, eq2, ne2, Prod.eta, List.length_cons, List.length_nil, List.length_append, Nat.zero_add] at *)
  all_goals (try simp (disch := omega) only [wrap64] at *)
  all_goals try first | exact leafDraw (by kernel_rfl) | exact Leaf.mk trivial | (refine Leaf.mk ?_; omega) | (refine Leaf.mk ?_; unfold maxLen; omega)
  all_goals first
    | exact decSelf h
    | exact Leaf.mk rfl
    | exact Leaf.mk ⟨i + 1, rfl, by omega, by omega⟩
    | (trace_state; sorry)
end Go.Proofs.Ytlfehkoklgmjjaa
