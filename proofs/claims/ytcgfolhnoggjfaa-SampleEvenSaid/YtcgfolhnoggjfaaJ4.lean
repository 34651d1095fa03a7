import Derived.Test.YtcgfolhnoggjfaaJ3



set_option linter.unusedVariables false
set_option linter.unusedSimpArgs false
set_option maxRecDepth 8000
set_option maxHeartbeats 4000000
namespace Go.Proofs.Ytcgfolhnoggjfaa
open Go.Eng
def sCloneC : PSpec := ⟨[.d (.slice CntT)], [⟨false, [.o 49 CntT]⟩], fun x => x.1.length ≤ 1000000, fun x => ((x.1, ()), ())⟩
theorem fCloneC : FnOk Try.prog 59 := ⟨_, Try.func59, by decide, rfl⟩
theorem pCloneC : PSound Try.prog 59 sCloneC := by
  refine psound (T := tab) (S := (spOf [])) (keep := k59) (by kernel_rfl) tabOk spNil (by kernel_rfl) Try.func59 (by kernel_rfl) (by decide) fun xs hg hp => ?_
  obtain ⟨xs, ⟨⟩⟩ := xs
  obtain ⟨⟨hl, -⟩, -⟩ := hg
  change List Cnt at xs
  clear hl
  change xs.length ≤ 1000000 at hp
  show vfun tab _ k59 Try.f59 [.sl CntT xs] [] _
  refine Ev.out ?_
  repeat' (first | ((with_reducible refine Ev.mk ?_); conv => whnf) | (with_reducible refine And.intro ?_ ?_) | (intro h))
  all_goals (try simp only [decide_eq_true_eq, decide_eq_false_iff_not, beq_iff_eq, bne_iff_ne, beq_eq_false_iff_ne, bne_eq_false_iff_eq, Int.toNat_natCast, ge_iff_le, gt_iff_lt, Bool.not_eq_true', Bool.not_eq_false', Int.not_lt, Int.not_le, ne_eq] at *)
  all_goals (try dsimp only [Ty.den, Ty.dflt, CntT] at *)
  all_goals (try simp only [eq4, ne4, eq3, ne3, eq2, ne2, Prod.eta, List.length_cons, List.length_nil, List.length_append, Nat.zero_add] at *)
  all_goals (try simp (disch := omega) only [wrap64] at *)
  all_goals try first | exact leafDraw (by kernel_rfl) | exact Leaf.mk trivial | (refine Leaf.mk ?_; omega) | (refine Leaf.mk ?_; unfold maxLen; omega)
  all_goals first
    | (refine Leaf.mk (ret1 (show ([] : List Cnt) = xs from ?_)); exact (List.eq_nil_of_length_eq_zero (by omega)).symm)
    | exact Leaf.mk (ret1 rfl)
    | skip
def sDeleteC : OSpec := ⟨49, CntT, [.d (.int .i64), .d (.int .i64)], fun xs y => 0 ≤ y.1 ∧ y.1 ≤ y.2.1 ∧ y.2.1 ≤ (xs.length : Int) ∧ xs.length ≤ 1000000, fun xs y => xs.take y.1.toNat ++ xs.drop y.2.1.toNat⟩
theorem fDeleteC : FnOk Try.prog 60 := ⟨_, Try.func60, by decide, rfl⟩
theorem pDeleteC : SpecOk Try.prog 60 sDeleteC.spec := by
  refine oOk (T := tab) (S := (spOf [])) (keep := k60) (by kernel_rfl) tabOk spNil (by kernel_rfl) Try.func60 (by kernel_rfl) (by decide) (by decide) fun xs ys k hg hgt hmax hp => ?_
  obtain ⟨i, j, ⟨⟩⟩ := ys
  change List Cnt at xs
  change Int at i
  change Int at j
  change 0 ≤ i ∧ i ≤ j ∧ j ≤ (xs.length : Int) ∧ xs.length ≤ 1000000 at hp
  clear hg hgt
  obtain ⟨i, rfl⟩ := Int.eq_ofNat_of_zero_le hp.1
  obtain ⟨j, rfl⟩ := Int.eq_ofNat_of_zero_le (show 0 ≤ j by omega)
  show vfun tab _ k60 Try.f60 [.vw 0 CntT 0 xs.length true, .i .i64 i, .i .i64 j] [(0, .raw 49 CntT (xs.map some ++ List.replicate k (none : Option (Ty.den CntT))))] _
  refine Ev.out ?_
  repeat' (first | ((with_reducible refine Ev.mk ?_); conv => whnf) | (with_reducible refine And.intro ?_ ?_) | (intro h))
  all_goals (try simp only [decide_eq_true_eq, decide_eq_false_iff_not, beq_iff_eq, bne_iff_ne, beq_eq_false_iff_ne, bne_eq_false_iff_eq, Int.toNat_natCast, ge_iff_le, gt_iff_lt, Bool.not_eq_true', Bool.not_eq_false', Int.not_lt, Int.not_le, ne_eq] at *)
  all_goals (try dsimp only [Ty.den, Ty.dflt, CntT] at *)
  all_goals (try simp only [eq4, ne4, eq3, ne3, eq2, ne2, Prod.eta, List.length_cons, List.length_nil, List.length_append, Nat.zero_add] at *)
  all_goals (try simp (disch := omega) only [wrap64] at *)
  all_goals (try simp only [Int.sub_zero, Int.toNat_natCast, Int.toNat_sub, Int.toNat_zero, Nat.zero_add, toNat_add', toNat_addsub, toNat_subadd, List.length_map, List.length_append, List.length_replicate, List.length_take, List.length_drop] at *)
  all_goals first | omega | skip
  all_goals try first | exact leafDraw (by kernel_rfl) | exact Leaf.mk trivial | (refine Leaf.mk ?_; omega) | (refine Leaf.mk ?_; unfold maxLen; omega)
  all_goals first
    | (refine Leaf.mk ?_; unfold maxLen at *; omega)
    | skip
  · refine Leaf.mk (readO_vw.trans (congrArg some (?_ : _ = (xs.take i ++ xs.drop j).map some)))
    obtain rfl : i = j := by omega
    change ((xs.map some ++ List.replicate k none).take _) = _
    rw [raw_take (by omega)]
    simp
  · refine Leaf.mk (?_ : (List.take _ (List.drop _ (xs.map some ++ List.replicate k none))).all Option.isSome = true); rw [raw_cut (by omega)]; exact raw_all
  · refine Leaf.mk (readO_vw.trans (congrArg some (?_ : _ = (xs.take i ++ xs.drop j).map some)))
    change List.take (α := Option Cnt) _ _ = _
    rw [Nat.min_eq_left (by omega), raw_cut (by omega), raw_take (by omega), map_some_getD]
    rw [show (xs.drop j).take (xs.length - j) = xs.drop j from List.take_of_length_le (by simp), ← List.map_append]
    rw [List.append_assoc (List.take _ _), List.take_append_of_le_length, List.take_take, Nat.min_self, List.take_append_of_le_length, List.take_of_length_le]
    all_goals simp
    all_goals omega
def mergeF (c : List Cnt) (at' : Int) : List Cnt := if 0 ≤ at' ∧ at' < (c.length : Int) - 1 then c.take at'.toNat ++ addC (c.getD at'.toNat cnt0) (c.getD (at'.toNat + 1) cnt0) :: c.drop (at'.toNat + 2) else c
theorem mergeF_len (c : List Cnt) (at' : Int) : (mergeF c at').length ≤ c.length := by
  unfold mergeF
  split
  · simp only [List.length_append, List.length_cons, List.length_take, List.length_drop]; omega
  · exact Nat.le_refl _
def mergeN (c : List Cnt) (at' : Int) (i : Nat) : List Cnt := if 0 ≤ at' ∧ at' < (c.length : Int) - 1 ∧ at' < i then c.take at'.toNat ++ addC (c.getD at'.toNat cnt0) (c.getD (at'.toNat + 1) cnt0) :: (c.drop (at'.toNat + 2)).take (i - (at'.toNat + 2)) else c.take i
theorem mergeN_len (c : List Cnt) (at' : Int) (i : Nat) : (mergeN c at' i).length ≤ i := by
  unfold mergeN
  split
  · simp only [List.length_append, List.length_cons, List.length_take, List.length_drop]; omega
  · rw [List.length_take]; omega
theorem mergeN_end (c : List Cnt) (at' : Int) : mergeN c at' c.length = mergeF c at' := by
  unfold mergeN mergeF
  by_cases h : 0 ≤ at' ∧ at' < (c.length : Int) - 1
  · rw [if_pos (by omega), if_pos h, List.take_of_length_le (l := c.drop _) (by rw [List.length_drop]; omega)]
  · rw [if_neg (by omega), if_neg h, List.take_length]
theorem mergeN_hit {c : List Cnt} {at' : Int} {i : Nat} (h : (i : Int) = at') (h2 : at' < (c.length : Int) - 1) : mergeN c at' (i + 1) = mergeN c at' i ++ [addC (c.getD i cnt0) (c.getD (i + 1) cnt0)] := by
  subst h
  unfold mergeN
  rw [if_pos (by omega), if_neg (by omega), Int.toNat_natCast, show i + 1 - (i + 2) = 0 by omega, List.take_zero]
theorem mergeN_skip {c : List Cnt} {at' : Int} {i : Nat} (h : (i : Int) - 1 = at') (h0 : 0 < (i : Int)) (hi : i < c.length) : mergeN c at' (i + 1) = mergeN c at' i := by
  unfold mergeN
  rw [if_pos (by omega), if_pos (by omega), show i + 1 - (at'.toNat + 2) = 0 by omega, show i - (at'.toNat + 2) = 0 by omega]
theorem mergeN_on {c : List Cnt} {at' : Int} {i : Nat} (hi : i < c.length) (h1 : (i : Int) = at' → ¬ at' < (c.length : Int) - 1) (h2 : 0 < (i : Int) → ¬ (i : Int) - 1 = at') : mergeN c at' (i + 1) = mergeN c at' i ++ [c.getD i cnt0] := by
  unfold mergeN
  by_cases h : 0 ≤ at' ∧ at' < (c.length : Int) - 1 ∧ at' < i
  · obtain ⟨p, rfl⟩ := Int.eq_ofNat_of_zero_le h.1
    have hp : p + 2 ≤ i := by
      by_cases hpi : (i : Int) - 1 = p
      · exact absurd hpi (h2 (by omega))
      · omega
    rw [if_pos (by omega), if_pos h, Int.toNat_natCast, List.append_assoc]
    congr 1
    rw [List.cons_append]
    congr 1
    rw [show i + 1 - (p + 2) = (i - (p + 2)) + 1 by omega, take_at cnt0 (by rw [List.length_drop]; omega)]
    congr 2
    rw [List.getD_eq_getElem?_getD, List.getElem?_drop, show p + 2 + (i - (p + 2)) = i by omega, ← List.getD_eq_getElem?_getD]
  · rw [if_neg (by omega), if_neg h, take_at cnt0 hi]
def sMerge : PSpec := ⟨[.d CntsT, .d (.int .i64)], [⟨false, [.o 49 CntT]⟩], fun x => List.length x.1 ≤ 100000, fun x => ((mergeF x.1 x.2.1, ()), ())⟩
theorem fMerge : FnOk Try.prog 30 := ⟨_, Try.func30, by decide, rfl⟩
theorem pMerge : PSound Try.prog 30 sMerge := by
  refine psound (T := tab) (S := (spOf [(59, sCloneC.spec (lsOf [])), (54, sAddC.spec (lsOf [])), (60, sDeleteC.spec)])) (keep := k30) (by kernel_rfl) tabOk (spCons (pOk pCloneC fCloneC (by decide) lsNil) (spCons (pOk pAddC fAddC (by decide) lsNil) (spCons (.inl ⟨pDeleteC, fDeleteC⟩) spNil))) (by kernel_rfl) Try.func30 (by kernel_rfl) (by decide) fun xs hg hp => ?_
  obtain ⟨c, at', ⟨⟩⟩ := xs
  obtain ⟨-, hat, -⟩ := hg
  change List Cnt at c
  change Int at at'
  change c.length ≤ 100000 at hp
  have hat := bd64 hat
  show vfun tab _ k30 Try.f30 [.sl CntT c, .i .i64 at'] [] _
  refine Ev.out ?_
  repeat' (first | ((with_reducible refine Ev.mk ?_); conv => whnf) | (with_reducible refine And.intro ?_ ?_) | (intro h))
  all_goals (try simp only [decide_eq_true_eq, decide_eq_false_iff_not, beq_iff_eq, bne_iff_ne, beq_eq_false_iff_ne, bne_eq_false_iff_eq, Int.toNat_natCast, ge_iff_le, gt_iff_lt, Bool.not_eq_true', Bool.not_eq_false', Int.not_lt, Int.not_le, ne_eq] at *)
  all_goals (try dsimp only [Ty.den, Ty.dflt, CntT, sCloneC] at *)
  all_goals (try simp only [eq4, ne4, eq3, ne3, eq2, ne2, Prod.eta, List.length_cons, List.length_nil, List.length_append, Nat.zero_add] at *)
  all_goals (try simp (disch := omega) only [wrap64] at *)
  all_goals try first | exact leafDraw (by kernel_rfl) | exact Leaf.mk trivial | (refine Leaf.mk ?_; omega) | (refine Leaf.mk ?_; unfold maxLen; omega)
  · refine Leaf.mk (ret1 (show c = mergeF c at' from ?_))
    rw [mergeF, if_neg (by omega)]
  · refine Leaf.mk (ret1 (show c = mergeF c at' from ?_))
    rw [mergeF, if_neg (by omega)]
  all_goals
    obtain ⟨p, rfl⟩ := Int.eq_ofNat_of_zero_le (show 0 ≤ at' by omega)
    rw [wrap64 (n := (p : Int) + 1) (by omega)] at *
    try rw [wrap64 (n := (p : Int) + 2) (by omega)] at *
    try rw [show ((p : Int) + 1).toNat = p + 1 by omega]
    try rw [Int.toNat_natCast]
  all_goals try (refine Leaf.mk ?_; omega)
  · refine Leaf.mk (show 0 ≤ (p : Int) + 1 ∧ (p : Int) + 1 ≤ (p : Int) + 2 ∧ (p : Int) + 2 ≤ (((c.set p _).length : Nat) : Int) ∧ (c.set p _).length ≤ 1000000 from ?_)
    rw [List.length_set]; omega
  · refine Leaf.mk (ret1 (show (c.set p (addC (c.getD p cnt0) (c.getD (p + 1) cnt0))).take ((p : Int) + 1).toNat ++ (c.set p (addC (c.getD p cnt0) (c.getD (p + 1) cnt0))).drop ((p : Int) + 2).toNat = mergeF c p from ?_))
    rw [mergeF, if_pos (by omega), Int.toNat_natCast, show ((p : Int) + 1).toNat = p + 1 by omega, show ((p : Int) + 2).toNat = p + 2 by omega]
    rw [take_at cnt0 (by rw [List.length_set]; omega), List.take_set_of_le (Nat.le_refl _), List.drop_set_of_lt (by omega), List.getD_eq_getElem?_getD, List.getElem?_set_self (by omega), List.append_assoc]
    rfl
def sMergeR : PSpec := ⟨[.d CntsT, .d (.int .i64)], [⟨false, [.d CntsT]⟩], fun x => List.length x.1 ≤ 100000, fun x => ((mergeF x.1 x.2.1, ()), ())⟩
theorem fMergeR : FnOk Try.prog 31 := ⟨_, Try.func31, by decide, rfl⟩
theorem pMergeR : PSound Try.prog 31 sMergeR := by
  refine psound (T := tab) (S := (spOf [])) (keep := k31) (by kernel_rfl) tabOk spNil (by kernel_rfl) Try.func31 (by kernel_rfl) (by decide) fun xs hg hp => ?_
  obtain ⟨c, at', ⟨⟩⟩ := xs
  obtain ⟨-, hat, -⟩ := hg
  change List Cnt at c
  change Int at at'
  change c.length ≤ 100000 at hp
  have hat := bd64 hat
  show vfun tab _ k31 Try.f31 [.sl CntT c, .i .i64 at'] [] _
  refine Ev.out ?_
  repeat' (first | ((with_reducible refine Ev.mk ?_); conv => whnf) | (with_reducible refine And.intro ?_ ?_) | (intro h))
  all_goals (try simp only [decide_eq_true_eq, decide_eq_false_iff_not, beq_iff_eq, bne_iff_ne, beq_eq_false_iff_ne, bne_eq_false_iff_eq, Int.toNat_natCast, ge_iff_le, gt_iff_lt, Bool.not_eq_true', Bool.not_eq_false', Int.not_lt, Int.not_le, ne_eq] at *)
  all_goals (try dsimp only [Ty.den, Ty.dflt, CntT] at *)
  all_goals (try simp only [eq4, ne4, eq3, ne3, eq2, ne2, Prod.eta, List.length_cons, List.length_nil, List.length_append, Nat.zero_add] at *)
  all_goals (try simp (disch := omega) only [wrap64] at *)
  all_goals try first | exact leafDraw (by kernel_rfl) | exact Leaf.mk trivial | (refine Leaf.mk ?_; omega) | (refine Leaf.mk ?_; unfold maxLen; omega)
  refine LoopVC.weak [(.slot 5, .nil 83 CntT)] (fun i : Nat => [(6, .i .i64 i)]) (fun i => [(0, .arr 83 CntT (mergeN c at' i))]) (fun i => i ≤ c.length) (fun i => c.length - i) 0 (Ev.mk ?_)
  (conv => whnf)
  refine ⟨Leaf.mk ?_, Leaf.mk ?_, ?_⟩
  · rw [show mergeN c at' 0 = [] from List.eq_nil_of_length_eq_zero (by have := mergeN_len c at' 0; omega)]; rfl
  · omega
  intro i hi
  have hml := mergeN_len c at' i
  repeat' (first | ((with_reducible refine Ev.mk ?_); conv => whnf) | (with_reducible refine And.intro ?_ ?_) | (intro h))
  all_goals (try simp only [decide_eq_true_eq, decide_eq_false_iff_not, beq_iff_eq, bne_iff_ne, beq_eq_false_iff_ne, bne_eq_false_iff_eq, Int.toNat_natCast, ge_iff_le, gt_iff_lt, Bool.not_eq_true', Bool.not_eq_false', Int.not_lt, Int.not_le, ne_eq] at *)
  all_goals (try dsimp only [Ty.den, Ty.dflt, CntT] at *)
  all_goals (try simp only [eq4, ne4, eq3, ne3, eq2, ne2, Prod.eta, List.length_cons, List.length_nil, List.length_append, Nat.zero_add] at *)
  all_goals (try simp (disch := omega) only [wrap64] at *)
  all_goals try first | exact leafDraw (by kernel_rfl) | exact Leaf.mk trivial | (refine Leaf.mk ?_; omega) | (refine Leaf.mk ?_; unfold maxLen; omega)
  all_goals first
    | (refine Leaf.mk ⟨i + 1, ?_, by omega, by omega⟩
       first
       | (rw [mergeN_hit (by omega) (by omega), show i + 1 = ((i : Int) + 1).toNat by omega]; rfl)
       | (rw [mergeN_skip (by omega) (by omega) (by omega)]; rfl)
       | (rw [mergeN_on (by omega) (by omega) (by omega)]; rfl))
    | (refine Leaf.mk (ret1 (show _ = mergeF c at' from ?_))
       rw [← mergeN_end, show i = c.length by omega])
end Go.Proofs.Ytcgfolhnoggjfaa
