import Derived.Test.YtlfehkoklgmjjaaG12


set_option linter.unusedVariables false
set_option linter.unusedSimpArgs false
set_option maxRecDepth 8000
set_option maxHeartbeats 4000000
namespace Go.Proofs.Ytlfehkoklgmjjaa
open Go.Eng
def lLCheck1 : LSpec := ⟨StT, .bool, [], fun v _ => emptyS v⟩
theorem fLCheck1 : FnOk Try.prog 137 := ⟨_, Try.func137, by decide, rfl⟩
theorem pLCheck1 : PSound Try.prog 137 lLCheck1.p := by
  refine psound (T := tab) (S := (spOf [])) (keep := k137) (by kernel_rfl) tabOk spNil (by kernel_rfl) Try.func137 (by kernel_rfl) (by decide) fun xs hg hp => ?_
  obtain ⟨⟨key, xs⟩, ⟨⟩⟩ := xs
  show vfun tab _ k137 Try.f137 [.agg [.s key, .sl VerT xs]] [] _
  refine Ev.out ?_
  repeat' (first | ((with_reducible refine Ev.mk ?_); conv => whnf) | (with_reducible refine And.intro ?_ ?_) | (intro h))
  exact Leaf.mk rfl
def checkL (l : List Stk) : Int := if mayL l = 0 then (if 1016 < sizeF l then 5 else 0) else mayL l
def sLSize : PSpec := ⟨[.st SsT], [⟨false, [.d (.int .i64)]⟩], fun x => List.length x.1 ≤ 100000, fun x => (((sizeF x.1 : Nat), ()), ())⟩
theorem fLSize : FnOk Try.prog 74 := ⟨_, Try.func74, by decide, rfl⟩
theorem pLSize : PSound Try.prog 74 sLSize := by
  refine psound (T := tab) (S := (spOf [(138, sLay14.spec (lsOf []))])) (keep := k74) (by kernel_rfl) tabOk (spCons (pOk pLay14 fLay14 (by decide) lsNil) spNil) (by kernel_rfl) Try.func74 (by kernel_rfl) (by decide) fun xs hg hp => ?_
  obtain ⟨xs, ⟨⟩⟩ := xs
  change List Stk at xs
  change xs.length ≤ 100000 at hp
  clear hg
  show vfun tab _ k74 Try.f74 [.agg [.sl StT xs]] [] _
  refine Ev.out ?_
  repeat' (first | ((with_reducible refine Ev.mk ?_); conv => whnf) | (with_reducible refine And.intro ?_ ?_) | (intro h))
  all_goals first | exact Leaf.mk hp | exact Leaf.mk rfl
def sLCheck : PSpec := ⟨[.st SsT], [⟨false, [.d (.int .i64)]⟩], fun x => List.length x.1 ≤ 100000, fun x => ((checkL x.1, ()), ())⟩
theorem fLCheck : FnOk Try.prog 73 := ⟨_, Try.func73, by decide, rfl⟩
theorem pLCheck : PSound Try.prog 73 sLCheck := by
  refine psound (T := tab) (S := (spOf [(53, sCheck.spec (lsOf [(137, lLCheck1)])), (136, sContainsFuncT.spec (lsOf [(137, lLCheck1)])), (74, sLSize.spec (lsOf [(137, lLCheck1)]))])) (keep := k73) (by kernel_rfl) tabOk (spCons (pOk pCheck fCheck (by decide) ((lsCons ⟨pLCheck1, fLCheck1⟩ lsNil))) (spCons (pOk pContainsFuncT fContainsFuncT (by decide) ((lsCons ⟨pLCheck1, fLCheck1⟩ lsNil))) (spCons (pOk pLSize fLSize (by decide) ((lsCons ⟨pLCheck1, fLCheck1⟩ lsNil))) spNil))) (by kernel_rfl) Try.func73 (by kernel_rfl) (by decide) fun xs hg hp => ?_
  obtain ⟨xs, ⟨⟩⟩ := xs
  change List Stk at xs
  change xs.length ≤ 100000 at hp
  clear hg
  show vfun tab _ k73 Try.f73 [.agg [.sl StT xs]] [] _
  refine Ev.out ?_
  repeat' (first | ((with_reducible refine Ev.mk ?_); conv => whnf) | (with_reducible refine And.intro ?_ ?_) | (intro h))
  all_goals (try simp only [decide_eq_true_eq, decide_eq_false_iff_not, beq_iff_eq, bne_iff_ne, beq_eq_false_iff_ne, bne_eq_false_iff_eq, Int.toNat_natCast, ge_iff_le, gt_iff_lt, Bool.not_eq_true', Bool.not_eq_false', Int.not_lt, Int.not_le, ne_eq] at *)
  all_goals (try dsimp only [Ty.den, Ty.dflt, StT] at *)
  all_goals (try simp only [eq4, ne4, eq3, ne3, eq2, ne2, Prod.eta, List.length_cons, List.length_nil, List.length_append, Nat.zero_add] at *)
  all_goals (try simp (disch := omega) only [wrap64] at *)
  all_goals try first | exact leafDraw (by kernel_rfl) | exact Leaf.mk trivial | (refine Leaf.mk ?_; omega) | (refine Leaf.mk ?_; unfold maxLen; omega)
  refine LoopVC.on (fun i : Nat => [(10, .i .i64 i)]) (fun _ => []) (fun i => i ≤ xs.length ∧ firstS xs = firstS (xs.drop i)) (fun i => xs.length - i) 0 rfl ⟨by omega, rfl⟩ ?_
  intro i ⟨hi, he⟩
  repeat' (first | ((with_reducible refine Ev.mk ?_); conv => whnf) | (with_reducible refine And.intro ?_ ?_) | (intro h))
  all_goals (try simp only [decide_eq_true_eq, decide_eq_false_iff_not, beq_iff_eq, bne_iff_ne, beq_eq_false_iff_ne, bne_eq_false_iff_eq, Int.toNat_natCast, ge_iff_le, gt_iff_lt, Bool.not_eq_true', Bool.not_eq_false', Int.not_lt, Int.not_le, ne_eq] at *)
  all_goals (try dsimp only [Ty.den, Ty.dflt, StT, sCheck] at *)
  all_goals (try simp only [eq4, ne4, eq3, ne3, eq2, ne2, Prod.eta, List.length_cons, List.length_nil, List.length_append, Nat.zero_add] at *)
  all_goals (try simp (disch := omega) only [wrap64] at *)
  all_goals try first | exact leafDraw (by kernel_rfl) | exact Leaf.mk trivial | (refine Leaf.mk ?_; omega) | (refine Leaf.mk ?_; unfold maxLen; omega)
  · rw [firstS_at (by omega), if_neg h] at he
    refine Leaf.mk (ret1 (show check (xs.getD i stk0) = checkL xs from ?_))
    have hm : mayL xs = check (xs.getD i stk0) := by rw [mayL, if_neg (by rw [he]; exact h), he]
    rw [checkL, if_neg (by rw [hm]; exact h), hm]
  · rw [firstS_at (by omega), if_pos h] at he
    exact Leaf.mk ⟨i + 1, rfl, ⟨by omega, he⟩, by omega⟩
  all_goals
    rw [drop_end (by omega)] at he
    have h0 : firstS xs = 0 := he
  · refine Leaf.mk (ret1 (show 4 = checkL xs from ?_))
    have hm : mayL xs = 4 := by rw [mayL, if_pos h0, if_pos]; assumption
    rw [checkL, if_neg (by rw [hm]; decide), hm]
  have hM : mayL xs = if Up xs xs.length then 0 else 12 := by
    rw [mayL, if_pos h0, if_neg]
    intro hc
    have h2 : xs.any emptyS = false := by assumption
    rw [hc] at h2; exact absurd h2 (by simp)
  refine LoopVC.on (fun i : Nat => [(6, .i .i64 i)]) (fun _ => []) (fun i => 1 ≤ i ∧ Up xs i) (fun i => xs.length - i) 1 rfl ⟨by omega, fun j hj hj1 => by omega⟩ ?_
  intro i ⟨hi, hu⟩
  repeat' (first | ((with_reducible refine Ev.mk ?_); conv => whnf) | (with_reducible refine And.intro ?_ ?_) | (intro h))
  all_goals (try simp only [decide_eq_true_eq, decide_eq_false_iff_not, beq_iff_eq, bne_iff_ne, beq_eq_false_iff_ne, bne_eq_false_iff_eq, Int.toNat_natCast, ge_iff_le, gt_iff_lt, Bool.not_eq_true', Bool.not_eq_false', Int.not_lt, Int.not_le, ne_eq] at *)
  all_goals (try dsimp only [Ty.den, Ty.dflt, StT, sLSize] at *)
  all_goals (try simp only [eq4, ne4, eq3, ne3, eq2, ne2, Prod.eta, List.length_cons, List.length_nil, List.length_append, Nat.zero_add] at *)
  all_goals (try simp (disch := omega) only [wrap64] at *)
  all_goals try first | exact leafDraw (by kernel_rfl) | exact Leaf.mk trivial | (refine Leaf.mk ?_; omega) | (refine Leaf.mk ?_; unfold maxLen; omega)
  all_goals try rw [show ((i : Int) - 1).toNat = i - 1 by omega] at h
  · refine Leaf.mk (ret1 (show 12 = checkL xs from ?_))
    have hm : mayL xs = 12 := by rw [hM, if_neg (up_not hi (by omega) h)]
    rw [checkL, if_neg (by rw [hm]; decide), hm]
  · exact Leaf.mk ⟨i + 1, rfl, ⟨by omega, up_step hu (sless_iff.1 h)⟩, by omega⟩
  all_goals
    have hm : mayL xs = 0 := by rw [hM, if_pos (show Up xs xs.length from fun j hj hj1 => hu j (by omega) hj1)]
  · refine Leaf.mk (ret1 (show 5 = checkL xs from ?_))
    rw [checkL, if_pos hm, if_pos (by omega)]
  · refine Leaf.mk (ret1 (show 0 = checkL xs from ?_))
    rw [checkL, if_pos hm, if_neg (by omega)]
end Go.Proofs.Ytlfehkoklgmjjaa
