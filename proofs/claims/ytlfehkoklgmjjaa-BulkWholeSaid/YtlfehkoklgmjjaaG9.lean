import Derived.Test.YtlfehkoklgmjjaaG8


set_option linter.unusedVariables false
set_option linter.unusedSimpArgs false
set_option maxRecDepth 8000
set_option maxHeartbeats 4000000
namespace Go.Proofs.Ytlfehkoklgmjjaa
open Go.Eng
def sBulkLeaves : PSpec := lawSpec [SsT]
theorem sameL_self {a : List Stk} (h : sameL a a = false) {P : Prop} : P := absurd h (by rw [sameL, decide_eq_true rfl]; simp)
theorem leavesR_len (l : List Stk) : (leavesR l).1.length ≤ l.length + 1 := by
  have := runP_le l l.length
  unfold leavesR
  split
  · simp only [leavesF, List.length_append, List.length_singleton]; omega
  · exact Nat.zero_le _
theorem lightL_len {l : List Stk} {m : Int} (h : lightL l m = true) : (l.length : Int) ≤ m := by
  unfold lightL at h
  rw [Bool.and_eq_true] at h
  exact of_decide_eq_true h.1
theorem fBulkLeaves : FnOk Try.prog 11 := ⟨_, Try.func11, by decide, rfl⟩
theorem pBulkLeaves : PSound Try.prog 11 sBulkLeaves := by
  refine psound (T := tab) (S := (spOf [(60, sLight14.spec (lsOf [])), (61, sAwake19.spec (lsOf [])), (62, sLeaves.spec (lsOf [])), (63, sLeavesR.spec (lsOf [])), (64, sSeps.spec (lsOf [])), (65, sSepsR.spec (lsOf [])), (66, sSameAll.spec (lsOf []))])) (keep := k11) (by kernel_rfl) tabOk (spCons (pOk pLight14 fLight14 (by decide) lsNil) (spCons (pOk pAwake19 fAwake19 (by decide) lsNil) (spCons (pOk pLeaves fLeaves (by decide) lsNil) (spCons (pOk pLeavesR fLeavesR (by decide) lsNil) (spCons (pOk pSeps fSeps (by decide) lsNil) (spCons (pOk pSepsR fSepsR (by decide) lsNil) (spCons (pOk pSameAll fSameAll (by decide) lsNil) spNil))))))) (by kernel_rfl) Try.func11 (by kernel_rfl) (by decide) fun xs hg hp => ?_
  obtain ⟨xs, ⟨⟩⟩ := xs
  obtain ⟨⟨hl, -⟩, -⟩ := hg
  change List Stk at xs
  change xs.length ≤ _ at hl
  clear hp
  show vfun tab _ k11 Try.f11 [.sl StT xs] [] _
  refine Ev.out ?_
  repeat' (first | ((with_reducible refine Ev.mk ?_); conv => whnf) | (with_reducible refine And.intro ?_ ?_) | (intro h))
  all_goals (try simp only [decide_eq_true_eq, decide_eq_false_iff_not, beq_iff_eq, bne_iff_ne, beq_eq_false_iff_ne, bne_eq_false_iff_eq, Int.toNat_natCast, ge_iff_le, gt_iff_lt, Bool.not_eq_true', Bool.not_eq_false', Int.not_lt, Int.not_le, ne_eq] at *)
  all_goals (try dsimp only [Ty.den, Ty.dflt, StT, SsT, sLight14] at *)
  all_goals (try simp only [eq4, ne4, eq3, ne3, eq2, ne2, Prod.eta, List.length_cons, List.length_nil, List.length_append, Nat.zero_add] at *)
  all_goals (try simp (disch := omega) only [wrap64] at *)
  all_goals try first | exact leafDraw (by kernel_rfl) | exact Leaf.mk trivial | (refine Leaf.mk ?_; omega) | (refine Leaf.mk ?_; unfold maxLen; omega)
  · exact Leaf.mk rfl
  all_goals
    have hx := lightL_len ‹lightL xs 60 = true›
    have hy := leavesR_len xs
  · exact Leaf.mk (show xs.length ≤ 100000 by omega)
  · exact Leaf.mk (show xs.length ≤ 100000 by omega)
  · exact Leaf.mk (show (leavesR xs).1.length ≤ 1000000 by omega)
  · exact Leaf.mk (show (leavesR xs).1.length ≤ 1000000 by omega)
  · exact absurd rfl h
  · exact absurd rfl h
  · exact absurd rfl h
  rw [show (sLeaves.fn (xs, ())).1.1 = (leavesR xs).1 from rfl, show (sLeavesR.fn (xs, ())).1.1 = (leavesR xs).1 from rfl]
  rw [show (sSeps.fn ((leavesR xs).1, ())).1.1 = sepsF (leavesR xs).1 from rfl, show (sSepsR.fn ((leavesR xs).1, ())).1.1 = sepsF (leavesR xs).1 from rfl]
  have hz : (sepsF (leavesR xs).1).length = (leavesR xs).1.length - 1 := by rw [sepsF, List.length_map, List.length_drop]
  generalize (leavesR xs).1 = ls at *
  generalize sepsF ls = ss at *
  refine LoopVC.on (fun i : Nat => [(9, .i .i64 i)]) (fun _ => []) (fun i => i ≤ ls.length) (fun i => ls.length - i) 0 rfl (by omega) ?_
  intro i hi
  repeat' (first | ((with_reducible refine Ev.mk ?_); conv => whnf) | (with_reducible refine And.intro ?_ ?_) | (intro h))
  all_goals (try simp only [decide_eq_true_eq, decide_eq_false_iff_not, beq_iff_eq, bne_iff_ne, beq_eq_false_iff_ne, bne_eq_false_iff_eq, Int.toNat_natCast, ge_iff_le, gt_iff_lt, Bool.not_eq_true', Bool.not_eq_false', Int.not_lt, Int.not_le, ne_eq] at *)
  all_goals (try dsimp only [Ty.den, Ty.dflt, StT, SsT] at *)
  all_goals (try simp only [eq4, ne4, eq3, ne3, eq2, ne2, Prod.eta, List.length_cons, List.length_nil, List.length_append, Nat.zero_add] at *)
  all_goals (try simp (disch := omega) only [wrap64] at *)
  all_goals try first | exact leafDraw (by kernel_rfl) | exact Leaf.mk trivial | (refine Leaf.mk ?_; omega) | (refine Leaf.mk ?_; unfold maxLen; omega)
  all_goals first
    | exact absurd rfl h
    | exact absurd trivial h
    | exact sameL_self h
    | exact Leaf.mk rfl
    | exact Leaf.mk ⟨i + 1, rfl, by omega, by omega⟩
end Go.Proofs.Ytlfehkoklgmjjaa
