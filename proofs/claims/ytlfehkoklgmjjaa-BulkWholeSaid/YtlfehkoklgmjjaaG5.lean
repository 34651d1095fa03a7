import Derived.Test.YtlfehkoklgmjjaaG4


set_option linter.unusedVariables false
set_option linter.unusedSimpArgs false
set_option maxRecDepth 8000
set_option maxHeartbeats 4000000
namespace Go.Proofs.Ytlfehkoklgmjjaa
open Go.Eng
theorem last_get {α : Type} {P : List α} {c d : α} : (P ++ [c]).getD (((P.length + 1 : Nat) : Int) - 1).toNat d = c := by
  rw [show (((P.length + 1 : Nat) : Int) - 1).toNat = P.length by omega]; simp
theorem last_set {α : Type} {P : List α} {c d : α} : (P ++ [c]).set (((P.length + 1 : Nat) : Int) - 1).toNat d = P ++ [d] := by
  rw [show (((P.length + 1 : Nat) : Int) - 1).toNat = P.length by omega]; simp
theorem cut_app {xs : List Stk} {i f : Nat} (h : f ≤ i) (hi : i < xs.length) : (xs.take i).drop f ++ [xs.getD i stk0] = (xs.take (i + 1)).drop f := by
  rw [take_at stk0 hi, List.drop_append_of_le_length (by rw [List.length_take]; omega)]
theorem cut_one {xs : List Stk} {i : Nat} (hi : i < xs.length) : (xs.take (i + 1)).drop i = [xs.getD i stk0] := by
  rw [← cut_app (Nat.le_refl i) hi, List.drop_of_length_le (by rw [List.length_take]; omega), List.nil_append]
def sLeavesR : PSpec := sLeaves
theorem fLeavesR : FnOk Try.prog 63 := ⟨_, Try.func63, by decide, rfl⟩
theorem pLeavesR : PSound Try.prog 63 sLeavesR := by
  refine psound (T := tab) (S := (spOf [(120, sSCheckR.spec (lsOf [])), (135, sSizeR.spec (lsOf []))])) (keep := k63) (by kernel_rfl) tabOk (spCons (pOk pSCheckR fSCheckR (by decide) lsNil) (spCons (pOk pSizeR fSizeR (by decide) lsNil) spNil)) (by kernel_rfl) Try.func63 (by kernel_rfl) (by decide) fun xs hg hp => ?_
  obtain ⟨xs, ⟨⟩⟩ := xs
  obtain ⟨⟨hl, -⟩, -⟩ := hg
  change List Stk at xs
  change xs.length ≤ 100000 at hp
  clear hl
  show vfun tab _ k63 Try.f63 [.sl StT xs] [] _
  refine Ev.out ?_
  repeat' (first | ((with_reducible refine Ev.mk ?_); conv => whnf) | (with_reducible refine And.intro ?_ ?_) | (intro h))
  all_goals (try simp only [decide_eq_true_eq, decide_eq_false_iff_not, beq_iff_eq, bne_iff_ne, beq_eq_false_iff_ne, bne_eq_false_iff_eq, Int.toNat_natCast, ge_iff_le, gt_iff_lt, Bool.not_eq_true', Bool.not_eq_false', Int.not_lt, Int.not_le, ne_eq] at *)
  all_goals (try dsimp only [Ty.den, Ty.dflt, StT, SsT, sMayL] at *)
  all_goals (try simp only [eq4, ne4, eq3, ne3, eq2, ne2, Prod.eta, List.length_cons, List.length_nil, List.length_append, Nat.zero_add] at *)
  all_goals (try simp (disch := omega) only [wrap64] at *)
  refine LoopVC.on (fun i : Nat => [(4, .i .i64 i)]) (fun _ => []) (fun i => i ≤ xs.length ∧ firstS xs = firstS (xs.drop i)) (fun i => xs.length - i) 0 rfl ⟨by omega, rfl⟩ ?_
  intro i ⟨hi, he⟩
  repeat' (first | ((with_reducible refine Ev.mk ?_); conv => whnf) | (with_reducible refine And.intro ?_ ?_) | (intro h))
  all_goals (try simp only [decide_eq_true_eq, decide_eq_false_iff_not, beq_iff_eq, bne_iff_ne, beq_eq_false_iff_ne, bne_eq_false_iff_eq, Int.toNat_natCast, ge_iff_le, gt_iff_lt, Bool.not_eq_true', Bool.not_eq_false', Int.not_lt, Int.not_le, ne_eq] at *)
  all_goals (try dsimp only [Ty.den, Ty.dflt, StT, sCheck, sSCheckR] at *)
  all_goals (try simp only [eq4, ne4, eq3, ne3, eq2, ne2, Prod.eta, List.length_cons, List.length_nil, List.length_append, Nat.zero_add] at *)
  all_goals (try simp (disch := omega) only [wrap64] at *)
  all_goals try first | exact leafDraw (by kernel_rfl) | exact Leaf.mk trivial | (refine Leaf.mk ?_; omega) | (refine Leaf.mk ?_; unfold maxLen; omega)
  · rw [firstS_at (by omega), if_neg h] at he
    refine Leaf.mk (retL (u := ([], check (xs.getD i stk0))) (v := leavesR xs) ?_)
    have hm : mayL xs = check (xs.getD i stk0) := by rw [mayL, if_neg (by rw [he]; exact h), he]
    rw [leavesR, if_neg (by rw [hm]; exact h), hm]
  · rw [firstS_at (by omega), if_pos h] at he
    exact Leaf.mk ⟨i + 1, rfl, ⟨by omega, he⟩, by omega⟩
  rw [drop_end (by omega)] at he
  have h0 : firstS xs = 0 := he
  refine LoopVC.on (fun i : Nat => [(6, .i .i64 i)]) (fun _ => []) (fun i => i ≤ xs.length ∧ xs.any emptyS = (xs.drop i).any emptyS) (fun i => xs.length - i) 0 rfl ⟨by omega, rfl⟩ ?_
  intro i ⟨hi, he⟩
  repeat' (first | ((with_reducible refine Ev.mk ?_); conv => whnf) | (with_reducible refine And.intro ?_ ?_) | (intro h))
  all_goals (try simp only [decide_eq_true_eq, decide_eq_false_iff_not, beq_iff_eq, bne_iff_ne, beq_eq_false_iff_ne, bne_eq_false_iff_eq, Int.toNat_natCast, ge_iff_le, gt_iff_lt, Bool.not_eq_true', Bool.not_eq_false', Int.not_lt, Int.not_le, ne_eq] at *)
  all_goals (try dsimp only [Ty.den, Ty.dflt, StT, sCheck, sSCheckR] at *)
  all_goals (try simp only [eq4, ne4, eq3, ne3, eq2, ne2, Prod.eta, List.length_cons, List.length_nil, List.length_append, Nat.zero_add] at *)
  all_goals (try simp (disch := omega) only [wrap64] at *)
  all_goals try first | exact leafDraw (by kernel_rfl) | exact Leaf.mk trivial | (refine Leaf.mk ?_; omega) | (refine Leaf.mk ?_; unfold maxLen; omega)
  · rw [any_hit stk0 (by omega) (show emptyS (xs.getD i stk0) = true from by simp only [emptyS, beq_iff_eq]; exact h)] at he
    have hm : mayL xs = 4 := by rw [mayL, if_pos h0, if_pos he]
    refine Leaf.mk (retL (u := ([], 4)) (v := leavesR xs) ?_)
    rw [leavesR, if_neg (by rw [hm]; decide), hm]
  · rw [any_skip stk0 (by omega) (show emptyS (xs.getD i stk0) = false from by rw [emptyS, beq_eq_false_iff_ne]; exact h)] at he
    exact Leaf.mk ⟨i + 1, rfl, ⟨by omega, he⟩, by omega⟩
  rw [any_end (by omega)] at he
  have hM : mayL xs = if Up xs xs.length then 0 else 12 := by
    rw [mayL, if_pos h0, if_neg (by rw [he]; simp)]
  refine LoopVC.on (fun i : Nat => [(7, .i .i64 i)]) (fun _ => []) (fun i => 1 ≤ i ∧ Up xs i) (fun i => xs.length - i) 1 rfl ⟨by omega, fun j hj hj1 => by omega⟩ ?_
  intro i ⟨hi, hu⟩
  repeat' (first | ((with_reducible refine Ev.mk ?_); conv => whnf) | (with_reducible refine And.intro ?_ ?_) | (intro h))
  all_goals (try simp only [decide_eq_true_eq, decide_eq_false_iff_not, beq_iff_eq, bne_iff_ne, beq_eq_false_iff_ne, bne_eq_false_iff_eq, Int.toNat_natCast, ge_iff_le, gt_iff_lt, Bool.not_eq_true', Bool.not_eq_false', Int.not_lt, Int.not_le, ne_eq] at *)
  all_goals (try dsimp only [Ty.den, Ty.dflt, StT] at *)
  all_goals (try simp only [eq4, ne4, eq3, ne3, eq2, ne2, Prod.eta, List.length_cons, List.length_nil, List.length_append, Nat.zero_add] at *)
  all_goals (try simp (disch := omega) only [wrap64] at *)
  all_goals try first | exact leafDraw (by kernel_rfl) | exact Leaf.mk trivial | (refine Leaf.mk ?_; omega) | (refine Leaf.mk ?_; unfold maxLen; omega)
  all_goals try rw [show ((i : Int) - 1).toNat = i - 1 by omega] at h
  · have hm : mayL xs = 12 := by rw [hM, if_neg (up_not hi (by omega) h)]
    refine Leaf.mk (retL (u := ([], 12)) (v := leavesR xs) ?_)
    rw [leavesR, if_neg (by rw [hm]; decide), hm]
  · exact Leaf.mk ⟨i + 1, rfl, ⟨by omega, up_step hu (sless_iff.1 h)⟩, by omega⟩
  have hm : mayL xs = 0 := by rw [hM, if_pos (show Up xs xs.length from fun j hj hj1 => hu j (by omega) hj1)]
  have hL : leavesR xs = (leavesF xs, 0) := if_pos hm
  refine LoopVC.on (fun i : Nat => [(9, .i .i64 i)]) (fun i => [(0, .arr 102 SsT ((runP xs i).1 ++ [(xs.take i).drop (runP xs i).2]))]) (fun i => i ≤ xs.length) (fun i => xs.length - i) 0 rfl (by omega) ?_
  intro i hi
  have hr := runP_le xs i
  repeat' (first | ((with_reducible refine Ev.mk ?_); conv => whnf) | (with_reducible refine And.intro ?_ ?_) | (intro h))
  all_goals (try simp only [decide_eq_true_eq, decide_eq_false_iff_not, beq_iff_eq, bne_iff_ne, beq_eq_false_iff_ne, bne_eq_false_iff_eq, Int.toNat_natCast, ge_iff_le, gt_iff_lt, Bool.not_eq_true', Bool.not_eq_false', Int.not_lt, Int.not_le, ne_eq] at *)
  all_goals (try dsimp only [Ty.den, Ty.dflt, StT, SsT, sMayL] at *)
  all_goals (try simp only [eq4, ne4, eq3, ne3, eq2, ne2, Prod.eta, List.length_cons, List.length_nil, List.length_append, Nat.zero_add] at *)
  all_goals (try simp (disch := omega) only [wrap64] at *)
  all_goals try first | exact leafDraw (by kernel_rfl) | exact Leaf.mk trivial | (refine Leaf.mk ?_; omega) | (refine Leaf.mk ?_; unfold maxLen; omega)
  all_goals try simp only [last_get, last_set] at *
  all_goals try rw [cut_app (by omega) (by omega)] at *
  all_goals have hcl : ((xs.take i).drop (runP xs i).2).length = i - (runP xs i).2 := by rw [List.length_drop, List.length_take]; omega
  all_goals try first
    | (refine Leaf.mk ?_; omega)
    | (refine Leaf.mk ?_; unfold maxLen; omega)
  · exact Leaf.mk (show List.length _ ≤ 100000 by simp only [List.length_drop, List.length_take]; omega)
  · refine Leaf.mk ⟨i + 1, ?_, by omega, by omega⟩
    have hs : 700 < sizeF ((xs.take (i + 1)).drop (runP xs i).2) := by
      have hz : (700 : Int) < (sizeF ((xs.take (i + 1)).drop (runP xs i).2) : Nat) := ‹_›
      omega
    rw [runP_succ, stepP, if_pos ⟨by omega, hs⟩, cut_one (by omega)]; rfl
  · refine Leaf.mk ⟨i + 1, ?_, by omega, by omega⟩
    have hs : ¬ 700 < sizeF ((xs.take (i + 1)).drop (runP xs i).2) := by
      have hz : ((sizeF ((xs.take (i + 1)).drop (runP xs i).2) : Nat) : Int) ≤ 700 := ‹_›
      omega
    rw [runP_succ, stepP, if_neg (fun hc => hs hc.2)]; rfl
  · refine Leaf.mk ⟨i + 1, ?_, by omega, by omega⟩
    rw [runP_succ, stepP, if_neg (fun hc => by omega)]; rfl
  · obtain rfl : i = xs.length := by omega
    rw [List.take_length]
    exact Leaf.mk (retL (u := (leavesF xs, 0)) hL.symm)
end Go.Proofs.Ytlfehkoklgmjjaa
