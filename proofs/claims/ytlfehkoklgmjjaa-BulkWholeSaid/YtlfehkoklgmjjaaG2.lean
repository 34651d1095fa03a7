import Derived.Test.YtlfehkoklgmjjaaG1


set_option linter.unusedVariables false
set_option linter.unusedSimpArgs false
set_option maxRecDepth 8000
set_option maxHeartbeats 4000000
namespace Go.Proofs.Ytlfehkoklgmjjaa
open Go.Eng
def planF : Nat → Int → List (List Int)
  | 0, _ => []
  | f + 1, n => if 1 < n then groups n :: planF f (groups n).length else []
def plan (n : Int) : List (List Int) := planF n.toNat n
theorem groups_len {n : Int} (h : 1 < n) : (groups n).length = kOf (mst n) ∧ 1 ≤ kOf (mst n) ∧ (kOf (mst n) : Int) < n ∧ kOf (mst n) ≤ 174763 := by
  have h1 : 1 ≤ mst n := by unfold mst; split <;> omega
  have hk := kOf_eq h1
  have hr := rem_bd h1
  have hm := mst_le n
  refine ⟨?_, hk.2.1, ?_, ?_⟩
  · unfold groups; rw [if_neg (by omega), rl_len (by omega)]
  · have : 2 ≤ mst n := by unfold mst; split <;> omega
    omega
  · omega
theorem planF_stable : ∀ (f : Nat) (n : Int), n.toNat ≤ f → planF f n = planF n.toNat n
  | 0, n, h => by rw [show n.toNat = 0 by omega]
  | f + 1, n, h => by
    by_cases h1 : 1 < n
    · obtain ⟨k, hk⟩ : ∃ k, n.toNat = k + 1 := ⟨n.toNat - 1, by omega⟩
      have hl := groups_len h1
      rw [hk, planF, planF, if_pos h1, if_pos h1, planF_stable f _ (by omega), planF_stable k _ (by omega)]
    · rw [planF, if_neg h1]
      cases hn : n.toNat with
      | zero => rfl
      | succ k => rw [planF, if_neg h1]
theorem plan_step {n : Int} (h : 1 < n) : plan n = groups n :: plan (groups n).length := by
  unfold plan
  obtain ⟨k, hk⟩ : ∃ k, n.toNat = k + 1 := ⟨n.toNat - 1, by omega⟩
  have hl := groups_len h
  rw [hk, planF, if_pos h, planF_stable k _ (by omega)]
theorem plan_end {n : Int} (h : ¬ 1 < n) : plan n = [] := by
  unfold plan
  cases hn : n.toNat with
  | zero => rfl
  | succ k => rw [planF, if_neg h]
def sPlan : PSpec := ⟨[.d (.int .i64)], [⟨false, [.d (.slice IsT)]⟩], fun _ => True, fun x => ((plan x.1, ()), ())⟩
def sPlanR : PSpec := sPlan
def capN (n : Int) : Nat := if 1048576 < n then 1048577 else n.toNat
theorem fPlan : FnOk Try.prog 67 := ⟨_, Try.func67, by decide, rfl⟩
theorem pPlan : PSound Try.prog 67 sPlan := by
  refine psound (T := tab) (S := (spOf [(71, sGroups.spec (lsOf []))])) (keep := k67) (by kernel_rfl) tabOk (spCons (pOk pGroups fGroups (by decide) lsNil) spNil) (by kernel_rfl) Try.func67 (by kernel_rfl) (by decide) fun xs hg hp => ?_
  obtain ⟨n, ⟨⟩⟩ := xs
  change Int at n
  clear hp hg
  show vfun tab _ k67 Try.f67 [.i .i64 n] [] _
  refine Ev.out ?_
  repeat' (first | ((with_reducible refine Ev.mk ?_); conv => whnf) | (with_reducible refine And.intro ?_ ?_) | (intro h))
  refine LoopVC.weak [(.slot 3, .nil 120 IsT)] (fun a : Int × List (List Int) => [(0, .i .i64 a.1)]) (fun a => [(0, .arr 120 IsT a.2)]) (fun a => plan n = a.2 ++ plan a.1 ∧ a.2.length + capN a.1 ≤ 1048577) (fun a => a.1.toNat) (n, []) (Ev.mk ?_)
  (conv => whnf)
  refine ⟨Leaf.mk rfl, Leaf.mk ?_, ?_⟩
  · exact ⟨rfl, by simp only [List.length_nil, capN]; split <;> omega⟩
  intro ⟨n', acc⟩ ⟨he, hc⟩
  dsimp only at he hc ⊢
  repeat' (first | ((with_reducible refine Ev.mk ?_); conv => whnf) | (with_reducible refine And.intro ?_ ?_) | (intro h))
  all_goals (try simp only [decide_eq_true_eq, decide_eq_false_iff_not, beq_iff_eq, bne_iff_ne, beq_eq_false_iff_ne, bne_eq_false_iff_eq, Int.toNat_natCast, ge_iff_le, gt_iff_lt, Bool.not_eq_true', Bool.not_eq_false', Int.not_lt, Int.not_le, ne_eq] at *)
  all_goals (try dsimp only [Ty.den, Ty.dflt, IsT, sGroups, sGroupsR] at *)
  all_goals (try simp only [eq4, ne4, eq3, ne3, eq2, ne2, Prod.eta, List.length_cons, List.length_nil, List.length_append, Nat.zero_add] at *)
  all_goals (try simp (disch := omega) only [wrap64] at *)
  all_goals try first | exact leafDraw (by kernel_rfl) | exact Leaf.mk trivial | (refine Leaf.mk ?_; omega) | (refine Leaf.mk ?_; unfold maxLen; omega)
  · have hl := groups_len h
    refine Leaf.mk ⟨(((groups n').length : Nat), acc ++ [groups n']), rfl, ⟨by rw [he, plan_step h, List.append_assoc]; rfl, ?_⟩, by dsimp only; omega⟩
    unfold capN at hc ⊢
    simp only [List.length_append, List.length_singleton]
    rw [if_neg (by omega)]
    split at hc <;> omega
  · refine Leaf.mk (ret1 (show acc = plan n from ?_))
    rw [he, plan_end (by omega), List.append_nil]
theorem fPlanR : FnOk Try.prog 68 := ⟨_, Try.func68, by decide, rfl⟩
theorem pPlanR : PSound Try.prog 68 sPlanR := by
  refine psound (T := tab) (S := (spOf [(72, sGroupsR.spec (lsOf []))])) (keep := k68) (by kernel_rfl) tabOk (spCons (pOk pGroupsR fGroupsR (by decide) lsNil) spNil) (by kernel_rfl) Try.func68 (by kernel_rfl) (by decide) fun xs hg hp => ?_
  obtain ⟨n, ⟨⟩⟩ := xs
  change Int at n
  clear hp hg
  show vfun tab _ k68 Try.f68 [.i .i64 n] [] _
  refine Ev.out ?_
  repeat' (first | ((with_reducible refine Ev.mk ?_); conv => whnf) | (with_reducible refine And.intro ?_ ?_) | (intro h))
  refine LoopVC.weak [(.slot 3, .nil 120 IsT)] (fun a : Int × List (List Int) => [(0, .i .i64 a.1)]) (fun a => [(0, .arr 120 IsT a.2)]) (fun a => plan n = a.2 ++ plan a.1 ∧ a.2.length + capN a.1 ≤ 1048577) (fun a => a.1.toNat) (n, []) (Ev.mk ?_)
  (conv => whnf)
  refine ⟨Leaf.mk rfl, Leaf.mk ?_, ?_⟩
  · exact ⟨rfl, by simp only [List.length_nil, capN]; split <;> omega⟩
  intro ⟨n', acc⟩ ⟨he, hc⟩
  dsimp only at he hc ⊢
  repeat' (first | ((with_reducible refine Ev.mk ?_); conv => whnf) | (with_reducible refine And.intro ?_ ?_) | (intro h))
  all_goals (try simp only [decide_eq_true_eq, decide_eq_false_iff_not, beq_iff_eq, bne_iff_ne, beq_eq_false_iff_ne, bne_eq_false_iff_eq, Int.toNat_natCast, ge_iff_le, gt_iff_lt, Bool.not_eq_true', Bool.not_eq_false', Int.not_lt, Int.not_le, ne_eq] at *)
  all_goals (try dsimp only [Ty.den, Ty.dflt, IsT, sGroups, sGroupsR] at *)
  all_goals (try simp only [eq4, ne4, eq3, ne3, eq2, ne2, Prod.eta, List.length_cons, List.length_nil, List.length_append, Nat.zero_add] at *)
  all_goals (try simp (disch := omega) only [wrap64] at *)
  all_goals try first | exact leafDraw (by kernel_rfl) | exact Leaf.mk trivial | (refine Leaf.mk ?_; omega) | (refine Leaf.mk ?_; unfold maxLen; omega)
  · have hl := groups_len h
    refine Leaf.mk ⟨(((groups n').length : Nat), acc ++ [groups n']), rfl, ⟨by rw [he, plan_step h, List.append_assoc]; rfl, ?_⟩, by dsimp only; omega⟩
    unfold capN at hc ⊢
    simp only [List.length_append, List.length_singleton]
    rw [if_neg (by omega)]
    split at hc <;> omega
  · refine Leaf.mk (ret1 (show acc = plan n from ?_))
    rw [he, plan_end (by omega), List.append_nil]
def sHeight : PSpec := ⟨[.d (.int .i64)], [⟨false, [.d (.int .i64)]⟩], fun _ => True, fun x => (((List.length (plan x.1) : Nat), ()), ())⟩
theorem fHeight : FnOk Try.prog 69 := ⟨_, Try.func69, by decide, rfl⟩
theorem pHeight : PSound Try.prog 69 sHeight := by
  refine psound (T := tab) (S := (spOf [(67, sPlan.spec (lsOf []))])) (keep := k69) (by kernel_rfl) tabOk (spCons (pOk pPlan fPlan (by decide) lsNil) spNil) (by kernel_rfl) Try.func69 (by kernel_rfl) (by decide) fun xs hg hp => ?_
  obtain ⟨n, ⟨⟩⟩ := xs
  change Int at n
  show vfun tab _ k69 Try.f69 [.i .i64 n] [] _
  refine Ev.out ?_
  repeat' (first | ((with_reducible refine Ev.mk ?_); conv => whnf) | (with_reducible refine And.intro ?_ ?_) | (intro h))
  all_goals first | exact Leaf.mk trivial | exact Leaf.mk rfl
def sSameI : PSpec := ⟨[.d IsT, .d IsT], [⟨false, [.d .bool]⟩], fun _ => True, fun x => ((decide ((x.1 : List Int) = x.2.1), ()), ())⟩
theorem fSameI : FnOk Try.prog 70 := ⟨_, Try.func70, by decide, rfl⟩
theorem pSameI : PSound Try.prog 70 sSameI := by
  refine psound (T := tab) (S := (spOf [])) (keep := k70) (by kernel_rfl) tabOk spNil (by kernel_rfl) Try.func70 (by kernel_rfl) (by decide) fun xs hg hp => ?_
  obtain ⟨xs, ys, ⟨⟩⟩ := xs
  obtain ⟨⟨hl, -⟩, ⟨hl2, -⟩, -⟩ := hg
  have hl := len63 hl
  have hl2 := len63 hl2
  change List Int at xs ys
  change xs.length ≤ _ at hl
  change ys.length ≤ _ at hl2
  clear hp
  show vfun tab _ k70 Try.f70 [.sl (.int .i64) xs, .sl (.int .i64) ys] [] _
  refine Ev.out ?_
  repeat' (first | ((with_reducible refine Ev.mk ?_); conv => whnf) | (with_reducible refine And.intro ?_ ?_) | (intro h))
  all_goals (try simp only [decide_eq_true_eq, decide_eq_false_iff_not, beq_iff_eq, bne_iff_ne, beq_eq_false_iff_ne, bne_eq_false_iff_eq, Int.toNat_natCast, ge_iff_le, gt_iff_lt, Bool.not_eq_true', Bool.not_eq_false', Int.not_lt, Int.not_le, ne_eq] at *)
  all_goals (try dsimp only [Ty.den, Ty.dflt, IsT] at *)
  all_goals (try simp only [eq4, ne4, eq3, ne3, eq2, ne2, Prod.eta, List.length_cons, List.length_nil, List.length_append, Nat.zero_add] at *)
  all_goals (try simp (disch := omega) only [wrap64] at *)
  · refine Leaf.mk (ret1 (show false = decide (xs = ys) from ?_))
    rw [eq_comm, decide_eq_false_iff_not]; intro hc; subst hc; omega
  refine LoopVC.on (fun i : Nat => [(5, .i .i64 i)]) (fun _ => []) (fun i => i ≤ xs.length ∧ xs.take i = ys.take i) (fun i => xs.length - i) 0 rfl ⟨by omega, by simp⟩ ?_
  intro i ⟨hi, he⟩
  repeat' (first | ((with_reducible refine Ev.mk ?_); conv => whnf) | (with_reducible refine And.intro ?_ ?_) | (intro h))
  all_goals (try simp only [decide_eq_true_eq, decide_eq_false_iff_not, beq_iff_eq, bne_iff_ne, beq_eq_false_iff_ne, bne_eq_false_iff_eq, Int.toNat_natCast, ge_iff_le, gt_iff_lt, Bool.not_eq_true', Bool.not_eq_false', Int.not_lt, Int.not_le, ne_eq] at *)
  all_goals (try dsimp only [Ty.den, Ty.dflt, IsT] at *)
  all_goals (try simp only [eq4, ne4, eq3, ne3, eq2, ne2, Prod.eta, List.length_cons, List.length_nil, List.length_append, Nat.zero_add] at *)
  all_goals (try simp (disch := omega) only [wrap64] at *)
  all_goals try first | exact leafDraw (by kernel_rfl) | exact Leaf.mk trivial | (refine Leaf.mk ?_; omega) | (refine Leaf.mk ?_; unfold maxLen; omega)
  all_goals first
    | exact Leaf.mk (ret1 (show false = decide (xs = ys) by rw [eq_comm, decide_eq_false_iff_not]; exact same_not 0 h))
    | exact Leaf.mk ⟨i + 1, rfl, ⟨by omega, same_step 0 (by omega) he (by omega) h⟩, by omega⟩
    | exact Leaf.mk (ret1 (show true = decide (xs = ys) by rw [eq_comm, decide_eq_true_eq]; exact same_end (by omega) he (by omega)))
end Go.Proofs.Ytlfehkoklgmjjaa
