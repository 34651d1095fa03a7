import Derived.Test.YtcgfolhnoggjfaaJ4



set_option linter.unusedVariables false
set_option linter.unusedSimpArgs false
set_option maxRecDepth 8000
set_option maxHeartbeats 4000000
namespace Go.Proofs.Ytcgfolhnoggjfaa
open Go.Eng
def ps (c : List Cnt) (i : Nat) : Int := w64 ((c.getD i cnt0).2.1 + (c.getD (i + 1) cnt0).2.1)
def bestN (c : List Cnt) : Nat → Nat
  | 0 => 0
  | i + 1 => if ps c (i + 1) < ps c (bestN c i) then i + 1 else bestN c i
theorem bestN_le (c : List Cnt) : ∀ i, bestN c i ≤ i
  | 0 => Nat.le_refl _
  | i + 1 => by
    have := bestN_le c i
    rw [bestN]; split <;> omega
def sLeast : PSpec := ⟨[.d CntsT], [⟨false, [.d (.int .i64)]⟩, ⟨false, [.d (.int .i64)]⟩], fun x => 2 ≤ List.length x.1 ∧ List.length x.1 ≤ 100000, fun x => ((((bestN x.1 (List.length x.1 - 2) : Nat) : Int), ()), (ps x.1 (bestN x.1 (List.length x.1 - 2)), ()), ())⟩
theorem fLeast : FnOk Try.prog 61 := ⟨_, Try.func61, by decide, rfl⟩
theorem pLeast : PSound Try.prog 61 sLeast := by
  refine psound (T := tab) (S := (spOf [(55, sTotal.spec (lsOf []))])) (keep := k61) (by kernel_rfl) tabOk (spCons (pOk pTotal fTotal (by decide) lsNil) spNil) (by kernel_rfl) Try.func61 (by kernel_rfl) (by decide) fun xs hg hp => ?_
  obtain ⟨c, ⟨⟩⟩ := xs
  change List Cnt at c
  change 2 ≤ c.length ∧ c.length ≤ 100000 at hp
  obtain ⟨hp1, hp2⟩ := hp
  clear hg
  show vfun tab _ k61 Try.f61 [.sl CntT c] [] _
  refine Ev.out ?_
  repeat' (first | ((with_reducible refine Ev.mk ?_); conv => whnf) | (with_reducible refine And.intro ?_ ?_) | (intro h))
  all_goals (try simp only [decide_eq_true_eq, decide_eq_false_iff_not, beq_iff_eq, bne_iff_ne, beq_eq_false_iff_ne, bne_eq_false_iff_eq, Int.toNat_natCast, ge_iff_le, gt_iff_lt, Bool.not_eq_true', Bool.not_eq_false', Int.not_lt, Int.not_le, ne_eq] at *)
  all_goals (try dsimp only [Ty.den, Ty.dflt, CntT] at *)
  all_goals (try simp only [eq4, ne4, eq3, ne3, eq2, ne2, Prod.eta, List.length_cons, List.length_nil, List.length_append, Nat.zero_add] at *)
  all_goals (try simp (disch := omega) only [wrap64] at *)
  all_goals try first | exact leafDraw (by kernel_rfl) | exact Leaf.mk trivial | (refine Leaf.mk ?_; omega) | (refine Leaf.mk ?_; unfold maxLen; omega)
  rw [show (sTotal.fn ([(c.getD (Int.toNat 0) ([], 0, 0)).2.1, (c.getD (Int.toNat 1) ([], 0, 0)).2.1], ())).1.1 = ps c 0 from totF_two _ _]
  refine LoopVC.on (fun i : Nat => [(4, .i .i64 ((bestN c (i - 1) : Nat) : Int)), (5, .i .i64 (ps c (bestN c (i - 1)))), (6, .i .i64 i)]) (fun _ => []) (fun i => 1 ≤ i ∧ i ≤ c.length - 1) (fun i => c.length - i) 1 rfl (by omega) ?_
  intro i ⟨hi1, hi⟩
  repeat' (first | ((with_reducible refine Ev.mk ?_); conv => whnf) | (with_reducible refine And.intro ?_ ?_) | (intro h))
  all_goals (try simp only [decide_eq_true_eq, decide_eq_false_iff_not, beq_iff_eq, bne_iff_ne, beq_eq_false_iff_ne, bne_eq_false_iff_eq, Int.toNat_natCast, ge_iff_le, gt_iff_lt, Bool.not_eq_true', Bool.not_eq_false', Int.not_lt, Int.not_le, ne_eq] at *)
  all_goals (try dsimp only [Ty.den, Ty.dflt, CntT] at *)
  all_goals (try simp only [eq4, ne4, eq3, ne3, eq2, ne2, Prod.eta, List.length_cons, List.length_nil, List.length_append, Nat.zero_add] at *)
  all_goals (try simp (disch := omega) only [wrap64] at *)
  all_goals try first | exact leafDraw (by kernel_rfl) | exact Leaf.mk trivial | (refine Leaf.mk ?_; omega) | (refine Leaf.mk ?_; unfold maxLen; omega)
  all_goals try exact Leaf.mk trivial
  all_goals try rw [show ((i : Int) + 1).toNat = i + 1 by omega] at *
  all_goals try rw [show (sTotal.fn ([(c.getD i ([], 0, 0)).2.1, (c.getD (i + 1) ([], 0, 0)).2.1], ())).1.1 = ps c i from totF_two _ _] at *
  all_goals first
    | (refine Leaf.mk ?_; omega)
    | (refine Leaf.mk ⟨i + 1, ?_, ⟨by omega, by omega⟩, by omega⟩
       obtain ⟨k, rfl⟩ : ∃ k, i = k + 1 := ⟨i - 1, by omega⟩
       simp only [Nat.add_sub_cancel] at *
       first
       | (rw [bestN, if_pos (by assumption)]; rfl)
       | (rw [bestN, if_neg (by omega)]; rfl))
    | (refine Leaf.mk (ret2 ?_ ?_)
       · rw [show i - 1 = c.length - 2 by omega]
       · rw [show i - 1 = c.length - 2 by omega])
def levelN : Nat → List Cnt → Int → List Cnt
  | 0, c, _ => c
  | f + 1, c, most => if 1 < c.length then (if most < ps c (bestN c (c.length - 2)) then c else levelN f (mergeF c (bestN c (c.length - 2) : Nat)) most) else c
def levelF (c : List Cnt) (most : Int) : List Cnt := levelN c.length c most
theorem merge_shrink {c : List Cnt} (h : 1 < c.length) : (mergeF c (bestN c (c.length - 2) : Nat)).length = c.length - 1 := by
  have := bestN_le c (c.length - 2)
  rw [mergeF, if_pos (by omega)]
  simp only [List.length_append, List.length_cons, List.length_take, List.length_drop, Int.toNat_natCast]; omega
theorem levelN_more : ∀ (f : Nat) (c : List Cnt) (most : Int), c.length ≤ f → levelN f c most = levelF c most
  | 0, c, most, h => by rw [levelF, show c.length = 0 by omega]
  | f + 1, c, most, h => by
    by_cases h0 : c.length = 0
    · have e : levelF c most = levelN 0 c most := by rw [levelF, h0]
      rw [e]
      show levelN (f + 1) c most = c
      rw [levelN, if_neg (by omega)]
    · obtain ⟨k, hk⟩ : ∃ k, c.length = k + 1 := ⟨c.length - 1, by omega⟩
      have e : levelF c most = levelN (k + 1) c most := by rw [levelF, hk]
      rw [e]
      simp only [levelN]
      split
      · split
        · rfl
        · have hm := merge_shrink (c := c) (by omega)
          rw [levelN_more f _ most (by rw [hm]; omega), levelN_more k _ most (by rw [hm]; omega)]
      · rfl
theorem level_end {c : List Cnt} {most : Int} (h : ¬ 1 < c.length) : levelF c most = c := by
  rw [levelF]
  cases c.length with
  | zero => rfl
  | succ k => rw [levelN, if_neg h]
theorem level_stop {c : List Cnt} {most : Int} (h : 1 < c.length) (h2 : most < ps c (bestN c (c.length - 2))) : levelF c most = c := by
  rw [levelF]
  obtain ⟨k, hk⟩ : ∃ k, c.length = k + 1 := ⟨c.length - 1, by omega⟩
  rw [show levelN c.length c most = levelN (k + 1) c most by rw [hk], levelN, if_pos h, if_pos h2]
theorem level_step {c : List Cnt} {most : Int} (h : 1 < c.length) (h2 : ¬ most < ps c (bestN c (c.length - 2))) : levelF c most = levelF (mergeF c (bestN c (c.length - 2) : Nat)) most := by
  have hm := merge_shrink h
  conv => lhs; rw [levelF]
  obtain ⟨k, hk⟩ : ∃ k, c.length = k + 1 := ⟨c.length - 1, by omega⟩
  rw [show levelN c.length c most = levelN (k + 1) c most by rw [hk], levelN, if_pos h, if_neg h2, levelN_more k _ most (by omega)]
def sLevel : PSpec := ⟨[.d CntsT, .d (.int .i64)], [⟨false, [.d CntsT]⟩], fun x => List.length x.1 ≤ 100000, fun x => ((levelF x.1 x.2.1, ()), ())⟩
def sLevelR : PSpec := sLevel
theorem fLevel : FnOk Try.prog 32 := ⟨_, Try.func32, by decide, rfl⟩
theorem pLevel : PSound Try.prog 32 sLevel := by
  refine psound (T := tab) (S := (spOf [(59, sCloneC.spec (lsOf [])), (61, sLeast.spec (lsOf [])), (30, sMerge.spec (lsOf []))])) (keep := k32) (by kernel_rfl) tabOk (spCons (pOk pCloneC fCloneC (by decide) lsNil) (spCons (pOk pLeast fLeast (by decide) lsNil) (spCons (pOk pMerge fMerge (by decide) lsNil) spNil))) (by kernel_rfl) Try.func32 (by kernel_rfl) (by decide) fun xs hg hp => ?_
  obtain ⟨c, most, ⟨⟩⟩ := xs
  change List Cnt at c
  change Int at most
  change c.length ≤ 100000 at hp
  clear hg
  show vfun tab _ k32 Try.f32 [.sl CntT c, .i .i64 most] [] _
  refine Ev.out ?_
  repeat' (first | ((with_reducible refine Ev.mk ?_); conv => whnf) | (with_reducible refine And.intro ?_ ?_) | (intro h))
  all_goals (try simp only [decide_eq_true_eq, decide_eq_false_iff_not, beq_iff_eq, bne_iff_ne, beq_eq_false_iff_ne, bne_eq_false_iff_eq, Int.toNat_natCast, ge_iff_le, gt_iff_lt, Bool.not_eq_true', Bool.not_eq_false', Int.not_lt, Int.not_le, ne_eq] at *)
  all_goals (try dsimp only [Ty.den, Ty.dflt, CntT, sCloneC] at *)
  all_goals (try simp only [eq4, ne4, eq3, ne3, eq2, ne2, Prod.eta, List.length_cons, List.length_nil, List.length_append, Nat.zero_add] at *)
  all_goals (try simp (disch := omega) only [wrap64] at *)
  all_goals try first | exact leafDraw (by kernel_rfl) | exact Leaf.mk trivial | (refine Leaf.mk ?_; omega) | (refine Leaf.mk ?_; unfold maxLen; omega)
  refine LoopVC.on (fun d : List Cnt => []) (fun d => [(0, .arr 49 CntT d)]) (fun d => d.length ≤ 100000 ∧ levelF c most = levelF d most) (fun d => d.length) c rfl ⟨hp, rfl⟩ ?_
  intro d ⟨hd, he⟩
  have hbl := bestN_le d (d.length - 2)
  repeat' (first | ((with_reducible refine Ev.mk ?_); conv => whnf) | (with_reducible refine And.intro ?_ ?_) | (intro h))
  all_goals (try simp only [decide_eq_true_eq, decide_eq_false_iff_not, beq_iff_eq, bne_iff_ne, beq_eq_false_iff_ne, bne_eq_false_iff_eq, Int.toNat_natCast, ge_iff_le, gt_iff_lt, Bool.not_eq_true', Bool.not_eq_false', Int.not_lt, Int.not_le, ne_eq] at *)
  all_goals (try dsimp only [Ty.den, Ty.dflt, CntT, sLeast] at *)
  all_goals (try simp only [eq4, ne4, eq3, ne3, eq2, ne2, Prod.eta, List.length_cons, List.length_nil, List.length_append, Nat.zero_add] at *)
  all_goals (try simp (disch := omega) only [wrap64] at *)
  all_goals try first | exact leafDraw (by kernel_rfl) | exact Leaf.mk trivial | (refine Leaf.mk ?_; omega) | (refine Leaf.mk ?_; unfold maxLen; omega)
  all_goals first
    | (refine Leaf.mk (show 2 ≤ d.length ∧ d.length ≤ 100000 from ?_); omega)
    | exact Leaf.mk (show d.length ≤ 100000 from hd)
    | (refine Leaf.mk ⟨mergeF d (bestN d (d.length - 2) : Nat), rfl, ⟨?_, ?_⟩, ?_⟩
       · have := merge_shrink (c := d) (by omega); omega
       · rw [he, level_step (by omega) (by omega)]
       · have := merge_shrink (c := d) (by omega); omega)
    | (refine Leaf.mk (ret1 (show d = levelF c most from ?_))
       rw [he]
       first
       | (rw [level_stop (by omega) (by omega)]; done)
       | (rw [level_end (by omega)]; done))
theorem fLevelR : FnOk Try.prog 33 := ⟨_, Try.func33, by decide, rfl⟩
theorem pLevelR : PSound Try.prog 33 sLevelR := by
  refine psound (T := tab) (S := (spOf [(31, sMergeR.spec (lsOf []))])) (keep := k33) (by kernel_rfl) tabOk (spCons (pOk pMergeR fMergeR (by decide) lsNil) spNil) (by kernel_rfl) Try.func33 (by kernel_rfl) (by decide) fun xs hg hp => ?_
  obtain ⟨c, most, ⟨⟩⟩ := xs
  change List Cnt at c
  change Int at most
  change c.length ≤ 100000 at hp
  clear hg
  show vfun tab _ k33 Try.f33 [.sl CntT c, .i .i64 most] [] _
  refine Ev.out ?_
  repeat' (first | ((with_reducible refine Ev.mk ?_); conv => whnf) | (with_reducible refine And.intro ?_ ?_) | (intro h))
  all_goals (try simp only [decide_eq_true_eq, decide_eq_false_iff_not, beq_iff_eq, bne_iff_ne, beq_eq_false_iff_ne, bne_eq_false_iff_eq, Int.toNat_natCast, ge_iff_le, gt_iff_lt, Bool.not_eq_true', Bool.not_eq_false', Int.not_lt, Int.not_le, ne_eq] at *)
  all_goals (try dsimp only [Ty.den, Ty.dflt, CntT, sMergeR] at *)
  all_goals (try simp only [eq4, ne4, eq3, ne3, eq2, ne2, Prod.eta, List.length_cons, List.length_nil, List.length_append, Nat.zero_add] at *)
  all_goals (try simp (disch := omega) only [wrap64] at *)
  all_goals try first | exact leafDraw (by kernel_rfl) | exact Leaf.mk trivial | (refine Leaf.mk ?_; omega) | (refine Leaf.mk ?_; unfold maxLen; omega)
  rw [show mergeF c (-1) = c from if_neg (by omega)]
  refine LoopVC.on (fun d : List Cnt => [(0, .sl CntT d)]) (fun _ => []) (fun d => d.length ≤ 100000 ∧ levelF c most = levelF d most) (fun d => d.length) c rfl ⟨hp, rfl⟩ ?_
  intro d ⟨hd, he⟩
  have hbl := bestN_le d (d.length - 2)
  repeat' (first | ((with_reducible refine Ev.mk ?_); conv => whnf) | (with_reducible refine And.intro ?_ ?_) | (intro h))
  all_goals (try simp only [decide_eq_true_eq, decide_eq_false_iff_not, beq_iff_eq, bne_iff_ne, beq_eq_false_iff_ne, bne_eq_false_iff_eq, Int.toNat_natCast, ge_iff_le, gt_iff_lt, Bool.not_eq_true', Bool.not_eq_false', Int.not_lt, Int.not_le, ne_eq] at *)
  all_goals (try dsimp only [Ty.den, Ty.dflt, CntT, sMergeR] at *)
  all_goals (try simp only [eq4, ne4, eq3, ne3, eq2, ne2, Prod.eta, List.length_cons, List.length_nil, List.length_append, Nat.zero_add] at *)
  all_goals (try simp (disch := omega) only [wrap64] at *)
  all_goals try first | exact leafDraw (by kernel_rfl) | exact Leaf.mk trivial | (refine Leaf.mk ?_; omega) | (refine Leaf.mk ?_; unfold maxLen; omega)
  rotate_right
  · refine Leaf.mk (ret1 (show d = levelF c most from ?_))
    rw [he, level_end (by omega)]
  refine LoopVC.on (fun i : Nat => [(5, .i .i64 ((bestN d (i - 1) : Nat) : Int)), (6, .i .i64 i)]) (fun _ => []) (fun i => i ≤ d.length - 1) (fun i => d.length - i) 0 rfl (by omega) ?_
  intro i hi
  have hbi := bestN_le d (i - 1)
  repeat' (first | ((with_reducible refine Ev.mk ?_); conv => whnf) | (with_reducible refine And.intro ?_ ?_) | (intro h))
  all_goals (try simp only [decide_eq_true_eq, decide_eq_false_iff_not, beq_iff_eq, bne_iff_ne, beq_eq_false_iff_ne, bne_eq_false_iff_eq, Int.toNat_natCast, ge_iff_le, gt_iff_lt, Bool.not_eq_true', Bool.not_eq_false', Int.not_lt, Int.not_le, ne_eq] at *)
  all_goals (try dsimp only [Ty.den, Ty.dflt, CntT, sMergeR] at *)
  all_goals (try simp only [eq4, ne4, eq3, ne3, eq2, ne2, Prod.eta, List.length_cons, List.length_nil, List.length_append, Nat.zero_add] at *)
  all_goals (try simp (disch := omega) only [wrap64] at *)
  all_goals try first | exact leafDraw (by kernel_rfl) | exact Leaf.mk trivial | (refine Leaf.mk ?_; omega) | (refine Leaf.mk ?_; unfold maxLen; omega)
  all_goals try rw [show ((i : Int) + 1).toNat = i + 1 by omega] at *
  all_goals try rw [show (((bestN d (i - 1) : Nat) : Int) + 1).toNat = bestN d (i - 1) + 1 by omega] at *
  all_goals try rw [Int.toNat_natCast] at *
  · have hz : ps d i < ps d (bestN d (i - 1)) := h
    refine Leaf.mk ⟨i + 1, ?_, by omega, by omega⟩
    cases i with
    | zero => exact absurd hz (by simp only [Nat.zero_sub, bestN]; omega)
    | succ k =>
      simp only [Nat.add_sub_cancel] at *
      rw [bestN, if_pos hz]; rfl
  · have hz : ps d (bestN d (i - 1)) ≤ ps d i := h
    refine Leaf.mk ⟨i + 1, ?_, by omega, by omega⟩
    cases i with
    | zero => rfl
    | succ k =>
      simp only [Nat.add_sub_cancel] at *
      rw [bestN, if_neg (by omega)]; rfl
  · have hz : most < ps d (bestN d (i - 1)) := h
    rw [show i - 1 = d.length - 2 by omega] at hz
    refine Leaf.mk (ret1 (show d = levelF c most from ?_))
    rw [he, level_stop (by omega) hz]
  · have hz : ps d (bestN d (i - 1)) ≤ most := h
    rw [show i - 1 = d.length - 2 by omega] at *
    have hm := merge_shrink (c := d) (by omega)
    refine Leaf.mk ⟨mergeF d (bestN d (d.length - 2) : Nat), rfl, ⟨by omega, ?_⟩, by omega⟩
    rw [he, level_step (by omega) (by omega)]
end Go.Proofs.Ytcgfolhnoggjfaa
