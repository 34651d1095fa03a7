import Derived.Test.YtbmnhcffmgicnaaQ7
import Derived.Test.YtbmnhcffmgicnaaEng4
import Derived.WalkKit
import Derived.Lib.ConvBytes
import Derived.Laws.BytesString
import Derived.Lib.SmallJoins
/- Texts, one behind the other. -/
set_option linter.unusedVariables false
set_option linter.unusedSimpArgs false
set_option maxRecDepth 8000
set_option maxHeartbeats 4000000
namespace Go.Proofs.Ytbmnhcffmgicnaa
open Go.Eng
def sCloneC : PSpec := ⟨[.d (.slice CntT)], [⟨false, [.o 38 CntT]⟩], fun x => x.1.length ≤ 1000000, fun x => ((x.1, ()), ())⟩
theorem fCloneC : FnOk Try.prog 26 := ⟨_, Try.func26, by decide, rfl⟩
theorem pCloneC : PSound Try.prog 26 sCloneC := by
  refine psound (T := tab) (S := (spOf [])) (keep := k26) (by kernel_rfl) tabOk spNil (by kernel_rfl) Try.func26 (by kernel_rfl) (by decide) fun xs hg hp => ?_
  obtain ⟨xs, ⟨⟩⟩ := xs
  obtain ⟨⟨hl, -⟩, -⟩ := hg
  change List Cnt at xs
  clear hl
  change xs.length ≤ 1000000 at hp
  show vfun tab _ k26 Try.f26 [.sl CntT xs] [] _
  refine Ev.out ?_
  repeat' (first | ((with_reducible refine Ev.mk ?_); conv => whnf) | (with_reducible refine And.intro ?_ ?_) | (intro h))
  all_goals (try simp only [decide_eq_true_eq, decide_eq_false_iff_not, beq_iff_eq, bne_iff_ne, beq_eq_false_iff_ne, bne_eq_false_iff_eq, Int.toNat_natCast, ge_iff_le, gt_iff_lt, Bool.not_eq_true', Bool.not_eq_false', Int.not_lt, Int.not_le, ne_eq] at *)
  all_goals (try dsimp only [Ty.den, Ty.dflt, CntT] at *)
  all_goals (try simp only [eq4, ne4, eq3, ne3, eq2, ne2, Prod.eta, List.length_cons, List.length_nil, List.length_append, Nat.zero_add] at *)
  all_goals (try simp (disch := omega) only [wrap64] at *)
  all_goals try first | exact leafDraw (by kernel_rfl) | exact Leaf.mk trivial | (refine Leaf.mk ?_; omega) | (refine Leaf.mk ?_; unfold maxLen; omega)
  all_goals first
    | (refine Leaf.mk (ret1 (show ([] : List Cnt) = xs from ?_)); exact (List.eq_nil_of_length_eq_zero (by omega)).symm)
    | exact Leaf.mk (ret1 rfl)
    | skip
def sDeleteC : OSpec := ⟨38, CntT, [.d (.int .i64), .d (.int .i64)], fun xs y => 0 ≤ y.1 ∧ y.1 ≤ y.2.1 ∧ y.2.1 ≤ (xs.length : Int) ∧ xs.length ≤ 1000000, fun xs y => xs.take y.1.toNat ++ xs.drop y.2.1.toNat⟩
theorem fDeleteC : FnOk Try.prog 27 := ⟨_, Try.func27, by decide, rfl⟩
theorem pDeleteC : SpecOk Try.prog 27 sDeleteC.spec := by
  refine oOk (T := tab) (S := (spOf [])) (keep := k27) (by kernel_rfl) tabOk spNil (by kernel_rfl) Try.func27 (by kernel_rfl) (by decide) (by decide) fun xs ys k hg hgt hmax hp => ?_
  obtain ⟨i, j, ⟨⟩⟩ := ys
  change List Cnt at xs
  change Int at i
  change Int at j
  change 0 ≤ i ∧ i ≤ j ∧ j ≤ (xs.length : Int) ∧ xs.length ≤ 1000000 at hp
  clear hg hgt
  obtain ⟨i, rfl⟩ := Int.eq_ofNat_of_zero_le hp.1
  obtain ⟨j, rfl⟩ := Int.eq_ofNat_of_zero_le (show 0 ≤ j by omega)
  show vfun tab _ k27 Try.f27 [.vw 0 CntT 0 xs.length true, .i .i64 i, .i .i64 j] [(0, .raw 38 CntT (xs.map some ++ List.replicate k (none : Option (Ty.den CntT))))] _
  refine Ev.out ?_
  repeat' (first | ((with_reducible refine Ev.mk ?_); conv => whnf) | (with_reducible refine And.intro ?_ ?_) | (intro h))
  all_goals (try simp only [decide_eq_true_eq, decide_eq_false_iff_not, beq_iff_eq, bne_iff_ne, beq_eq_false_iff_ne, bne_eq_false_iff_eq, Int.toNat_natCast, ge_iff_le, gt_iff_lt, Bool.not_eq_true', Bool.not_eq_false', Int.not_lt, Int.not_le, ne_eq] at *)
  all_goals (try dsimp only [Ty.den, Ty.dflt, CntT] at *)
  all_goals (try simp only [eq4, ne4, eq3, ne3, eq2, ne2, Prod.eta, List.length_cons, List.length_nil, List.length_append, Nat.zero_add] at *)
  all_goals (try simp (disch := omega) only [wrap64] at *)
  all_goals (try simp only [Int.sub_zero, Int.toNat_natCast, Int.toNat_sub, Int.toNat_zero, Nat.zero_add, toNat_add', toNat_addsub, toNat_subadd, List.length_map, List.length_append, List.length_replicate, List.length_take, List.length_drop] at *)
  all_goals first | omega | skip
  all_goals try first | exact leafDraw (by kernel_rfl) | exact Leaf.mk trivial | (refine Leaf.mk ?_; omega) | (refine Leaf.mk ?_; unfold maxLen; omega)
  all_goals first
    | (refine Leaf.mk ?_; unfold maxLen at *; omega)
    | skip
  · refine Leaf.mk (readO_vw.trans (congrArg some (?_ : _ = (xs.take i ++ xs.drop j).map some)))
    obtain rfl : i = j := by omega
    change ((xs.map some ++ List.replicate k none).take _) = _
    rw [raw_take (by omega)]
    simp
  · refine Leaf.mk (?_ : (List.take _ (List.drop _ (xs.map some ++ List.replicate k none))).all Option.isSome = true); rw [raw_cut (by omega)]; exact raw_all
  · refine Leaf.mk (readO_vw.trans (congrArg some (?_ : _ = (xs.take i ++ xs.drop j).map some)))
    change List.take (α := Option Cnt) _ _ = _
    rw [Nat.min_eq_left (by omega), raw_cut (by omega), raw_take (by omega), map_some_getD]
    rw [show (xs.drop j).take (xs.length - j) = xs.drop j from List.take_of_length_le (by simp), ← List.map_append]
    rw [List.append_assoc (List.take _ _), List.take_append_of_le_length, List.take_take, Nat.min_self, List.take_append_of_le_length, List.take_of_length_le]
    all_goals simp
    all_goals omega
def mergeF (c : List Cnt) (at' : Int) : List Cnt := if 0 ≤ at' ∧ at' < (c.length : Int) - 1 then c.take at'.toNat ++ addC (c.getD at'.toNat cnt0) (c.getD (at'.toNat + 1) cnt0) :: c.drop (at'.toNat + 2) else c
def sMerge : PSpec := ⟨[.d CntsT, .d (.int .i64)], [⟨false, [.o 38 CntT]⟩], fun x => List.length x.1 ≤ 100000, fun x => ((mergeF x.1 x.2.1, ()), ())⟩
theorem fMerge : FnOk Try.prog 15 := ⟨_, Try.func15, by decide, rfl⟩
theorem pMerge : PSound Try.prog 15 sMerge := by
  refine psound (T := tab) (S := (spOf [(26, sCloneC.spec (lsOf [])), (24, sAddC.spec (lsOf [])), (27, sDeleteC.spec)])) (keep := k15) (by kernel_rfl) tabOk (spCons (pOk pCloneC fCloneC (by decide) lsNil) (spCons (pOk pAddC fAddC (by decide) lsNil) (spCons (.inl ⟨pDeleteC, fDeleteC⟩) spNil))) (by kernel_rfl) Try.func15 (by kernel_rfl) (by decide) fun xs hg hp => ?_
  obtain ⟨c, at', ⟨⟩⟩ := xs
  obtain ⟨-, hat, -⟩ := hg
  change List Cnt at c
  change Int at at'
  change c.length ≤ 100000 at hp
  have hat := bd64 hat
  show vfun tab _ k15 Try.f15 [.sl CntT c, .i .i64 at'] [] _
  refine Ev.out ?_
  repeat' (first | ((with_reducible refine Ev.mk ?_); conv => whnf) | (with_reducible refine And.intro ?_ ?_) | (intro h))
  all_goals (try simp only [decide_eq_true_eq, decide_eq_false_iff_not, beq_iff_eq, bne_iff_ne, beq_eq_false_iff_ne, bne_eq_false_iff_eq, Int.toNat_natCast, ge_iff_le, gt_iff_lt, Bool.not_eq_true', Bool.not_eq_false', Int.not_lt, Int.not_le, ne_eq] at *)
  all_goals (try dsimp only [Ty.den, Ty.dflt, CntT, sCloneC] at *)
  all_goals (try simp only [eq4, ne4, eq3, ne3, eq2, ne2, Prod.eta, List.length_cons, List.length_nil, List.length_append, Nat.zero_add] at *)
  all_goals (try simp (disch := omega) only [wrap64] at *)
  all_goals try first | exact leafDraw (by kernel_rfl) | exact Leaf.mk trivial | (refine Leaf.mk ?_; omega) | (refine Leaf.mk ?_; unfold maxLen; omega)
  · refine Leaf.mk (ret1 (show c = mergeF c at' from ?_))
    rw [mergeF, if_neg (by omega)]
  · refine Leaf.mk (ret1 (show c = mergeF c at' from ?_))
    rw [mergeF, if_neg (by omega)]
  all_goals
    obtain ⟨p, rfl⟩ := Int.eq_ofNat_of_zero_le (show 0 ≤ at' by omega)
    rw [wrap64 (n := (p : Int) + 1) (by omega)] at *
    try rw [wrap64 (n := (p : Int) + 2) (by omega)] at *
    try rw [show ((p : Int) + 1).toNat = p + 1 by omega]
    try rw [Int.toNat_natCast]
  all_goals try (refine Leaf.mk ?_; omega)
  · refine Leaf.mk (show 0 ≤ (p : Int) + 1 ∧ (p : Int) + 1 ≤ (p : Int) + 2 ∧ (p : Int) + 2 ≤ (((c.set p _).length : Nat) : Int) ∧ (c.set p _).length ≤ 1000000 from ?_)
    rw [List.length_set]; omega
  · refine Leaf.mk (ret1 (show (c.set p (addC (c.getD p cnt0) (c.getD (p + 1) cnt0))).take ((p : Int) + 1).toNat ++ (c.set p (addC (c.getD p cnt0) (c.getD (p + 1) cnt0))).drop ((p : Int) + 2).toNat = mergeF c p from ?_))
    rw [mergeF, if_pos (by omega), Int.toNat_natCast, show ((p : Int) + 1).toNat = p + 1 by omega, show ((p : Int) + 2).toNat = p + 2 by omega]
    rw [take_at cnt0 (by rw [List.length_set]; omega), List.take_set_of_le (Nat.le_refl _), List.drop_set_of_lt (by omega), List.getD_eq_getElem?_getD, List.getElem?_set_self (by omega), List.append_assoc]
    rfl
end Go.Proofs.Ytbmnhcffmgicnaa

set_option linter.unusedVariables false
set_option linter.unusedSimpArgs false
set_option maxRecDepth 8000
set_option maxHeartbeats 4000000
namespace Go.Proofs.Ytbmnhcffmgicnaa
open Go.Eng
def ps (c : List Cnt) (i : Nat) : Int := w64 ((c.getD i cnt0).2.1 + (c.getD (i + 1) cnt0).2.1)
def bestN (c : List Cnt) : Nat → Nat
  | 0 => 0
  | i + 1 => if ps c (i + 1) < ps c (bestN c i) then i + 1 else bestN c i
theorem bestN_le (c : List Cnt) : ∀ i, bestN c i ≤ i
  | 0 => Nat.le_refl _
  | i + 1 => by
    have := bestN_le c i
    rw [bestN]; split <;> omega
def sLeast : PSpec := ⟨[.d CntsT], [⟨false, [.d (.int .i64)]⟩, ⟨false, [.d (.int .i64)]⟩], fun x => 2 ≤ List.length x.1 ∧ List.length x.1 ≤ 100000, fun x => ((((bestN x.1 (List.length x.1 - 2) : Nat) : Int), ()), (ps x.1 (bestN x.1 (List.length x.1 - 2)), ()), ())⟩
theorem fLeast : FnOk Try.prog 28 := ⟨_, Try.func28, by decide, rfl⟩
theorem pLeast : PSound Try.prog 28 sLeast := by
  refine psound (T := tab) (S := (spOf [(25, sTotal.spec (lsOf []))])) (keep := k28) (by kernel_rfl) tabOk (spCons (pOk pTotal fTotal (by decide) lsNil) spNil) (by kernel_rfl) Try.func28 (by kernel_rfl) (by decide) fun xs hg hp => ?_
  obtain ⟨c, ⟨⟩⟩ := xs
  change List Cnt at c
  change 2 ≤ c.length ∧ c.length ≤ 100000 at hp
  obtain ⟨hp1, hp2⟩ := hp
  clear hg
  show vfun tab _ k28 Try.f28 [.sl CntT c] [] _
  refine Ev.out ?_
  repeat' (first | ((with_reducible refine Ev.mk ?_); conv => whnf) | (with_reducible refine And.intro ?_ ?_) | (intro h))
  all_goals (try simp only [decide_eq_true_eq, decide_eq_false_iff_not, beq_iff_eq, bne_iff_ne, beq_eq_false_iff_ne, bne_eq_false_iff_eq, Int.toNat_natCast, ge_iff_le, gt_iff_lt, Bool.not_eq_true', Bool.not_eq_false', Int.not_lt, Int.not_le, ne_eq] at *)
  all_goals (try dsimp only [Ty.den, Ty.dflt, CntT] at *)
  all_goals (try simp only [eq4, ne4, eq3, ne3, eq2, ne2, Prod.eta, List.length_cons, List.length_nil, List.length_append, Nat.zero_add] at *)
  all_goals (try simp (disch := omega) only [wrap64] at *)
  all_goals try first | exact leafDraw (by kernel_rfl) | exact Leaf.mk trivial | (refine Leaf.mk ?_; omega) | (refine Leaf.mk ?_; unfold maxLen; omega)
  rw [show (sTotal.fn ([(c.getD (Int.toNat 0) ([], 0, 0)).2.1, (c.getD (Int.toNat 1) ([], 0, 0)).2.1], ())).1.1 = ps c 0 from totF_two _ _]
  refine LoopVC.on (fun i : Nat => [(4, .i .i64 ((bestN c (i - 1) : Nat) : Int)), (5, .i .i64 (ps c (bestN c (i - 1)))), (6, .i .i64 i)]) (fun _ => []) (fun i => 1 ≤ i ∧ i ≤ c.length - 1) (fun i => c.length - i) 1 rfl (by omega) ?_
  intro i ⟨hi1, hi⟩
  repeat' (first | ((with_reducible refine Ev.mk ?_); conv => whnf) | (with_reducible refine And.intro ?_ ?_) | (intro h))
  all_goals (try simp only [decide_eq_true_eq, decide_eq_false_iff_not, beq_iff_eq, bne_iff_ne, beq_eq_false_iff_ne, bne_eq_false_iff_eq, Int.toNat_natCast, ge_iff_le, gt_iff_lt, Bool.not_eq_true', Bool.not_eq_false', Int.not_lt, Int.not_le, ne_eq] at *)
  all_goals (try dsimp only [Ty.den, Ty.dflt, CntT] at *)
  all_goals (try simp only [eq4, ne4, eq3, ne3, eq2, ne2, Prod.eta, List.length_cons, List.length_nil, List.length_append, Nat.zero_add] at *)
  all_goals (try simp (disch := omega) only [wrap64] at *)
  all_goals try first | exact leafDraw (by kernel_rfl) | exact Leaf.mk trivial | (refine Leaf.mk ?_; omega) | (refine Leaf.mk ?_; unfold maxLen; omega)
  all_goals try exact Leaf.mk trivial
  all_goals try rw [show ((i : Int) + 1).toNat = i + 1 by omega] at *
  all_goals try rw [show (sTotal.fn ([(c.getD i ([], 0, 0)).2.1, (c.getD (i + 1) ([], 0, 0)).2.1], ())).1.1 = ps c i from totF_two _ _] at *
  all_goals first
    | (refine Leaf.mk ?_; omega)
    | (refine Leaf.mk ⟨i + 1, ?_, ⟨by omega, by omega⟩, by omega⟩
       obtain ⟨k, rfl⟩ : ∃ k, i = k + 1 := ⟨i - 1, by omega⟩
       simp only [Nat.add_sub_cancel] at *
       first
       | (rw [bestN, if_pos (by assumption)]; rfl)
       | (rw [bestN, if_neg (by omega)]; rfl))
    | (refine Leaf.mk (ret2 ?_ ?_)
       · rw [show i - 1 = c.length - 2 by omega]
       · rw [show i - 1 = c.length - 2 by omega])
def levelN : Nat → List Cnt → Int → List Cnt
  | 0, c, _ => c
  | f + 1, c, most => if 1 < c.length then (if most < ps c (bestN c (c.length - 2)) then c else levelN f (mergeF c (bestN c (c.length - 2) : Nat)) most) else c
def levelF (c : List Cnt) (most : Int) : List Cnt := levelN c.length c most
theorem merge_shrink {c : List Cnt} (h : 1 < c.length) : (mergeF c (bestN c (c.length - 2) : Nat)).length = c.length - 1 := by
  have := bestN_le c (c.length - 2)
  rw [mergeF, if_pos (by omega)]
  simp only [List.length_append, List.length_cons, List.length_take, List.length_drop, Int.toNat_natCast]; omega
theorem levelN_more : ∀ (f : Nat) (c : List Cnt) (most : Int), c.length ≤ f → levelN f c most = levelF c most
  | 0, c, most, h => by rw [levelF, show c.length = 0 by omega]
  | f + 1, c, most, h => by
    by_cases h0 : c.length = 0
    · have e : levelF c most = levelN 0 c most := by rw [levelF, h0]
      rw [e]
      show levelN (f + 1) c most = c
      rw [levelN, if_neg (by omega)]
    · obtain ⟨k, hk⟩ : ∃ k, c.length = k + 1 := ⟨c.length - 1, by omega⟩
      have e : levelF c most = levelN (k + 1) c most := by rw [levelF, hk]
      rw [e]
      simp only [levelN]
      split
      · split
        · rfl
        · have hm := merge_shrink (c := c) (by omega)
          rw [levelN_more f _ most (by rw [hm]; omega), levelN_more k _ most (by rw [hm]; omega)]
      · rfl
theorem level_end {c : List Cnt} {most : Int} (h : ¬ 1 < c.length) : levelF c most = c := by
  rw [levelF]
  cases c.length with
  | zero => rfl
  | succ k => rw [levelN, if_neg h]
theorem level_stop {c : List Cnt} {most : Int} (h : 1 < c.length) (h2 : most < ps c (bestN c (c.length - 2))) : levelF c most = c := by
  rw [levelF]
  obtain ⟨k, hk⟩ : ∃ k, c.length = k + 1 := ⟨c.length - 1, by omega⟩
  rw [show levelN c.length c most = levelN (k + 1) c most by rw [hk], levelN, if_pos h, if_pos h2]
theorem level_step {c : List Cnt} {most : Int} (h : 1 < c.length) (h2 : ¬ most < ps c (bestN c (c.length - 2))) : levelF c most = levelF (mergeF c (bestN c (c.length - 2) : Nat)) most := by
  have hm := merge_shrink h
  conv => lhs; rw [levelF]
  obtain ⟨k, hk⟩ : ∃ k, c.length = k + 1 := ⟨c.length - 1, by omega⟩
  rw [show levelN c.length c most = levelN (k + 1) c most by rw [hk], levelN, if_pos h, if_neg h2, levelN_more k _ most (by omega)]
def sLevel : PSpec := ⟨[.d CntsT, .d (.int .i64)], [⟨false, [.d CntsT]⟩], fun x => List.length x.1 ≤ 100000, fun x => ((levelF x.1 x.2.1, ()), ())⟩
theorem fLevel : FnOk Try.prog 16 := ⟨_, Try.func16, by decide, rfl⟩
theorem pLevel : PSound Try.prog 16 sLevel := by
  refine psound (T := tab) (S := (spOf [(26, sCloneC.spec (lsOf [])), (28, sLeast.spec (lsOf [])), (15, sMerge.spec (lsOf []))])) (keep := k16) (by kernel_rfl) tabOk (spCons (pOk pCloneC fCloneC (by decide) lsNil) (spCons (pOk pLeast fLeast (by decide) lsNil) (spCons (pOk pMerge fMerge (by decide) lsNil) spNil))) (by kernel_rfl) Try.func16 (by kernel_rfl) (by decide) fun xs hg hp => ?_
  obtain ⟨c, most, ⟨⟩⟩ := xs
  change List Cnt at c
  change Int at most
  change c.length ≤ 100000 at hp
  clear hg
  show vfun tab _ k16 Try.f16 [.sl CntT c, .i .i64 most] [] _
  refine Ev.out ?_
  repeat' (first | ((with_reducible refine Ev.mk ?_); conv => whnf) | (with_reducible refine And.intro ?_ ?_) | (intro h))
  all_goals (try simp only [decide_eq_true_eq, decide_eq_false_iff_not, beq_iff_eq, bne_iff_ne, beq_eq_false_iff_ne, bne_eq_false_iff_eq, Int.toNat_natCast, ge_iff_le, gt_iff_lt, Bool.not_eq_true', Bool.not_eq_false', Int.not_lt, Int.not_le, ne_eq] at *)
  all_goals (try dsimp only [Ty.den, Ty.dflt, CntT, sCloneC] at *)
  all_goals (try simp only [eq4, ne4, eq3, ne3, eq2, ne2, Prod.eta, List.length_cons, List.length_nil, List.length_append, Nat.zero_add] at *)
  all_goals (try simp (disch := omega) only [wrap64] at *)
  all_goals try first | exact leafDraw (by kernel_rfl) | exact Leaf.mk trivial | (refine Leaf.mk ?_; omega) | (refine Leaf.mk ?_; unfold maxLen; omega)
  refine LoopVC.on (fun d : List Cnt => []) (fun d => [(0, .arr 38 CntT d)]) (fun d => d.length ≤ 100000 ∧ levelF c most = levelF d most) (fun d => d.length) c rfl ⟨hp, rfl⟩ ?_
  intro d ⟨hd, he⟩
  have hbl := bestN_le d (d.length - 2)
  repeat' (first | ((with_reducible refine Ev.mk ?_); conv => whnf) | (with_reducible refine And.intro ?_ ?_) | (intro h))
  all_goals (try simp only [decide_eq_true_eq, decide_eq_false_iff_not, beq_iff_eq, bne_iff_ne, beq_eq_false_iff_ne, bne_eq_false_iff_eq, Int.toNat_natCast, ge_iff_le, gt_iff_lt, Bool.not_eq_true', Bool.not_eq_false', Int.not_lt, Int.not_le, ne_eq] at *)
  all_goals (try dsimp only [Ty.den, Ty.dflt, CntT, sLeast] at *)
  all_goals (try simp only [eq4, ne4, eq3, ne3, eq2, ne2, Prod.eta, List.length_cons, List.length_nil, List.length_append, Nat.zero_add] at *)
  all_goals (try simp (disch := omega) only [wrap64] at *)
  all_goals try first | exact leafDraw (by kernel_rfl) | exact Leaf.mk trivial | (refine Leaf.mk ?_; omega) | (refine Leaf.mk ?_; unfold maxLen; omega)
  all_goals first
    | (refine Leaf.mk (show 2 ≤ d.length ∧ d.length ≤ 100000 from ?_); omega)
    | exact Leaf.mk (show d.length ≤ 100000 from hd)
    | (refine Leaf.mk ⟨mergeF d (bestN d (d.length - 2) : Nat), rfl, ⟨?_, ?_⟩, ?_⟩
       · have := merge_shrink (c := d) (by omega); omega
       · rw [he, level_step (by omega) (by omega)]
       · have := merge_shrink (c := d) (by omega); omega)
    | (refine Leaf.mk (ret1 (show d = levelF c most from ?_))
       rw [he]
       first
       | (rw [level_stop (by omega) (by omega)]; done)
       | (rw [level_end (by omega)]; done))
end Go.Proofs.Ytbmnhcffmgicnaa

set_option linter.unusedVariables false
set_option linter.unusedSimpArgs false
set_option maxRecDepth 8000
set_option maxHeartbeats 4000000
namespace Go.Proofs.Ytbmnhcffmgicnaa
open Go.Eng
def maxN (c : List Cnt) : Nat → Cnt
  | 0 => c.getD 0 cnt0
  | i + 1 => if 0 < (c.getD (i + 1) cnt0).2.1 - (maxN c i).2.1 then c.getD (i + 1) cnt0 else maxN c i
def minN (c : List Cnt) : Nat → Cnt
  | 0 => c.getD 0 cnt0
  | i + 1 => if (c.getD (i + 1) cnt0).2.1 - (minN c i).2.1 < 0 then c.getD (i + 1) cnt0 else minN c i
def bdK (c : List Cnt) : Prop := ∀ x ∈ c, -1125899906842624 ≤ x.2.1 ∧ x.2.1 ≤ 1125899906842624
def sSkew1 : PSpec := ⟨[.d CntT, .d CntT], [⟨false, [.d (.int .i64)]⟩], fun _ => True, fun x => ((w64 (x.1.2.1 - x.2.1.2.1), ()), ())⟩
theorem fSkew1 : FnOk Try.prog 29 := ⟨_, Try.func29, by decide, rfl⟩
theorem pSkew1 : PSound Try.prog 29 sSkew1 := by
  refine psound (T := tab) (S := (spOf [])) (keep := k29) (by kernel_rfl) tabOk spNil (by kernel_rfl) Try.func29 (by kernel_rfl) (by decide) fun xs hg hp => ?_
  obtain ⟨⟨lo, k, b⟩, ⟨lo2, k2, b2⟩, ⟨⟩⟩ := xs
  show vfun tab _ k29 Try.f29 [.agg [.s lo, .i .i64 k, .i .i64 b], .agg [.s lo2, .i .i64 k2, .i .i64 b2]] [] _
  refine Ev.out ?_
  repeat' (first | ((with_reducible refine Ev.mk ?_); conv => whnf) | (with_reducible refine And.intro ?_ ?_) | (intro h))
  all_goals exact Leaf.mk rfl
theorem fMaxC : FnOk Try.prog 30 := ⟨_, Try.func30, by decide, rfl⟩
noncomputable def iMaxC : Eng.Spec := inl tab (spOf [(29, sSkew1.spec (lsOf []))]) k30 Try.f30
theorem pMaxC : SpecOk Try.prog 30 iMaxC := inl_ok tabOk (spCons (pOk pSkew1 fSkew1 (by decide) lsNil) spNil) (by kernel_rfl) Try.func30 (by kernel_rfl)
theorem fMinC : FnOk Try.prog 31 := ⟨_, Try.func31, by decide, rfl⟩
noncomputable def iMinC : Eng.Spec := inl tab (spOf [(29, sSkew1.spec (lsOf []))]) k31 Try.f31
theorem pMinC : SpecOk Try.prog 31 iMinC := inl_ok tabOk (spCons (pOk pSkew1 fSkew1 (by decide) lsNil) spNil) (by kernel_rfl) Try.func31 (by kernel_rfl)
theorem maxN_mem {c : List Cnt} : ∀ i, i < c.length → maxN c i ∈ c
  | 0, h => getD_mem cnt0 h
  | i + 1, h => by
    rw [maxN]; split
    · exact getD_mem cnt0 h
    · exact maxN_mem i (by omega)
theorem minN_mem {c : List Cnt} : ∀ i, i < c.length → minN c i ∈ c
  | 0, h => getD_mem cnt0 h
  | i + 1, h => by
    rw [minN]; split
    · exact getD_mem cnt0 h
    · exact minN_mem i (by omega)
def skewF (c : List Cnt) : Int := if c.length = 0 then 0 else (maxN c (c.length - 1)).2.1 - (minN c (c.length - 1)).2.1
def sSkew : PSpec := ⟨[.d CntsT], [⟨false, [.d (.int .i64)]⟩], fun x => bdK x.1 ∧ List.length x.1 ≤ 100000, fun x => ((skewF x.1, ()), ())⟩
theorem fSkew : FnOk Try.prog 17 := ⟨_, Try.func17, by decide, rfl⟩
theorem pSkew : PSound Try.prog 17 sSkew := by
  refine psound (T := tab) (S := (spOf [(30, iMaxC), (31, iMinC), (29, sSkew1.spec (lsOf []))])) (keep := k17) (by kernel_rfl) tabOk (spCons (.inl ⟨pMaxC, fMaxC⟩) (spCons (.inl ⟨pMinC, fMinC⟩) (spCons (pOk pSkew1 fSkew1 (by decide) lsNil) spNil))) (by kernel_rfl) Try.func17 (by kernel_rfl) (by decide) fun xs hg hp => ?_
  obtain ⟨c, ⟨⟩⟩ := xs
  change List Cnt at c
  change bdK c ∧ c.length ≤ 100000 at hp
  obtain ⟨hb, hp⟩ := hp
  clear hg
  show vfun tab _ k17 Try.f17 [.sl CntT c] [] _
  refine Ev.out ?_
  repeat' (first | ((with_reducible refine Ev.mk ?_); conv => whnf) | (with_reducible refine And.intro ?_ ?_) | (intro h))
  all_goals (try simp only [decide_eq_true_eq, decide_eq_false_iff_not, beq_iff_eq, bne_iff_ne, beq_eq_false_iff_ne, bne_eq_false_iff_eq, Int.toNat_natCast, ge_iff_le, gt_iff_lt, Bool.not_eq_true', Bool.not_eq_false', Int.not_lt, Int.not_le, ne_eq] at *)
  all_goals (try dsimp only [Ty.den, Ty.dflt, CntT] at *)
  all_goals (try simp only [eq4, ne4, eq3, ne3, eq2, ne2, Prod.eta, List.length_cons, List.length_nil, List.length_append, Nat.zero_add] at *)
  all_goals (try simp (disch := omega) only [wrap64] at *)
  all_goals try first | exact leafDraw (by kernel_rfl) | exact Leaf.mk trivial | (refine Leaf.mk ?_; omega) | (refine Leaf.mk ?_; unfold maxLen; omega)
  · refine Leaf.mk (ret1 (show 0 = skewF c from ?_))
    rw [skewF, if_pos (by omega)]
  · exfalso; omega
  have hmx := fun (i : Nat) (h : i < c.length) => hb _ (maxN_mem (c := c) i h)
  have hmn := fun (i : Nat) (h : i < c.length) => hb _ (minN_mem (c := c) i h)
  have hci := fun (i : Nat) (h : i < c.length) => hb _ (getD_mem cnt0 h)
  refine LoopVC.on (fun i : Nat => [(6, .i .i64 i)]) (fun i => [(17, .box [.s (maxN c (i - 1)).1, .i .i64 (maxN c (i - 1)).2.1, .i .i64 (maxN c (i - 1)).2.2])]) (fun i => 1 ≤ i ∧ i ≤ c.length) (fun i => c.length - i) 1 rfl (by omega) ?_
  intro i ⟨hi1, hi⟩
  have h1 := hmx (i - 1) (by omega)
  repeat' (first | ((with_reducible refine Ev.mk ?_); conv => whnf) | (with_reducible refine And.intro ?_ ?_) | (intro h))
  all_goals (try simp only [decide_eq_true_eq, decide_eq_false_iff_not, beq_iff_eq, bne_iff_ne, beq_eq_false_iff_ne, bne_eq_false_iff_eq, Int.toNat_natCast, ge_iff_le, gt_iff_lt, Bool.not_eq_true', Bool.not_eq_false', Int.not_lt, Int.not_le, ne_eq] at *)
  all_goals (try dsimp only [Ty.den, Ty.dflt, CntT, sSkew1] at *)
  all_goals (try simp only [eq4, ne4, eq3, ne3, eq2, ne2, Prod.eta, List.length_cons, List.length_nil, List.length_append, Nat.zero_add] at *)
  all_goals (try simp (disch := omega) only [wrap64] at *)
  all_goals try first | exact leafDraw (by kernel_rfl) | exact Leaf.mk trivial | (refine Leaf.mk ?_; omega) | (refine Leaf.mk ?_; unfold maxLen; omega)
  rotate_left 2
  · exfalso; omega
  · obtain rfl : i = c.length := by omega
    have h2 := hmx (c.length - 1) (by omega)
    refine LoopVC.on (fun i : Nat => [(6, .i .i64 i)]) (fun i => [(49, .box [.s (minN c (i - 1)).1, .i .i64 (minN c (i - 1)).2.1, .i .i64 (minN c (i - 1)).2.2])]) (fun i => 1 ≤ i ∧ i ≤ c.length) (fun i => c.length - i) 1 rfl (by omega) ?_
    intro j ⟨hj1, hj⟩
    have h3 := hmn (j - 1) (by omega)
    repeat' (first | ((with_reducible refine Ev.mk ?_); conv => whnf) | (with_reducible refine And.intro ?_ ?_) | (intro h))
    all_goals (try simp only [decide_eq_true_eq, decide_eq_false_iff_not, beq_iff_eq, bne_iff_ne, beq_eq_false_iff_ne, bne_eq_false_iff_eq, Int.toNat_natCast, ge_iff_le, gt_iff_lt, Bool.not_eq_true', Bool.not_eq_false', Int.not_lt, Int.not_le, ne_eq] at *)
    all_goals (try dsimp only [Ty.den, Ty.dflt, CntT, sSkew1] at *)
    all_goals (try simp only [eq4, ne4, eq3, ne3, eq2, ne2, Prod.eta, List.length_cons, List.length_nil, List.length_append, Nat.zero_add] at *)
    all_goals (try simp (disch := omega) only [wrap64] at *)
    all_goals try first | exact leafDraw (by kernel_rfl) | exact Leaf.mk trivial | (refine Leaf.mk ?_; omega) | (refine Leaf.mk ?_; unfold maxLen; omega)
    rotate_right
    · refine Leaf.mk (ret1 (show _ = skewF c from ?_))
      rw [show j - 1 = c.length - 1 by omega] at *
      rw [skewF, if_neg (by omega)]
    all_goals
      have h4 := hci j (by omega)
      have hw : w64 ((c.getD j cnt0).2.1 - (minN c (j - 1)).2.1) = (c.getD j cnt0).2.1 - (minN c (j - 1)).2.1 := wrap64 (by omega)
      refine Leaf.mk ⟨j + 1, ?_, ⟨by omega, by omega⟩, by omega⟩
      obtain ⟨k, rfl⟩ : ∃ k, j = k + 1 := ⟨j - 1, by omega⟩
      simp only [Nat.add_sub_cancel] at *
      rw [hw] at h
      first
      | (rw [minN, if_pos (by omega)]; rfl)
      | (rw [minN, if_neg (by omega)]; rfl)
  all_goals
    have h4 := hci i (by omega)
    have hw : w64 ((c.getD i cnt0).2.1 - (maxN c (i - 1)).2.1) = (c.getD i cnt0).2.1 - (maxN c (i - 1)).2.1 := wrap64 (by omega)
    refine Leaf.mk ⟨i + 1, ?_, ⟨by omega, by omega⟩, by omega⟩
    obtain ⟨k, rfl⟩ : ∃ k, i = k + 1 := ⟨i - 1, by omega⟩
    simp only [Nat.add_sub_cancel] at *
    rw [hw] at h
    first
    | (rw [maxN, if_pos (by omega)]; rfl)
    | (rw [maxN, if_neg (by omega)]; rfl)
end Go.Proofs.Ytbmnhcffmgicnaa

set_option linter.unusedVariables false
set_option linter.unusedSimpArgs false
set_option maxRecDepth 8000
set_option maxHeartbeats 4000000
namespace Go.Proofs.Ytbmnhcffmgicnaa
open Go.Eng
def incI : List Int → Option (List Int)
  | [] => none
  | c :: r => match incI r with
    | some r' => some (c :: r')
    | none => if c = 255 then none else some ((c + 1) :: List.replicate r.length 0)
def aftI (a : List Int) (n : Nat) : Option (List Int) := if a.length < n then some (a ++ List.replicate (n - a.length) 0) else incI (a.take n)
def aftF (a : Str) (n : Nat) : Str × Bool := match aftI (bytesOfStr a) n with
  | some x => (strOfBytes x, true)
  | none => ([], false)
theorem incI_snoc (c : Int) : ∀ (Y : List Int), incI (Y ++ [c]) = if c = 255 then (incI Y).map (· ++ [0]) else some (Y ++ [c + 1])
  | [] => by
    show (match incI [] with | some r' => some (c :: r') | none => _) = _
    simp [incI]
  | x :: Y => by
    have ih := incI_snoc c Y
    rw [List.cons_append, incI, ih]
    by_cases h : c = 255
    · rw [if_pos h, if_pos h, incI]
      cases e : incI Y with
      | none =>
        simp only [Option.map_none]
        split
        · rfl
        · simp [List.replicate_succ']
      | some r => simp
    · rw [if_neg h, if_neg h]; rfl
def IncAt (X : List Int) (n m : Nat) : Prop := incI X = (incI (X.take m)).map (· ++ List.replicate (n - m) 0)
def curI (X : List Int) (n m : Nat) : List Int := X.take m ++ List.replicate (n - m) 0
theorem curI_len {X : List Int} {n m : Nat} (hX : X.length = n) (h : m ≤ n) : (curI X n m).length = n := by
  rw [curI, List.length_append, List.length_take, List.length_replicate]; omega
theorem curI_get {X : List Int} {n m : Nat} (hX : X.length = n) (h : m < n) : (curI X n (m + 1)).getD m 0 = X.getD m 0 := by
  rw [curI, List.getD_eq_getElem?_getD, List.getD_eq_getElem?_getD, List.getElem?_append_left (by rw [List.length_take]; omega), List.getElem?_take_of_lt (by omega)]
theorem curI_set {X : List Int} {n m : Nat} (hX : X.length = n) (h : m < n) (v : Int) : (curI X n (m + 1)).set m v = X.take m ++ v :: List.replicate (n - (m + 1)) 0 := by
  rw [curI, take_at 0 (by omega), List.append_assoc, List.set_append_right _ _ (by rw [List.length_take]; omega), List.length_take, Nat.min_eq_left (by omega), Nat.sub_self]; rfl
theorem curI_next {X : List Int} {n m : Nat} (hX : X.length = n) (h : m < n) : (curI X n (m + 1)).set m 0 = curI X n m := by
  rw [curI_set hX h, curI, show n - m = (n - (m + 1)) + 1 by omega]; rfl
theorem incAt_next {X : List Int} {n m : Nat} (hX : X.length = n) (h : m < n) (q : IncAt X n (m + 1)) (hc : X.getD m 0 = 255) : IncAt X n m := by
  unfold IncAt at *
  rw [q, take_at 0 (by omega), incI_snoc, if_pos hc, Option.map_map, show n - m = (n - (m + 1)) + 1 by omega]
  congr 1
  funext y
  simp [List.replicate_succ]
theorem incAt_done {X : List Int} {n m : Nat} (hX : X.length = n) (h : m < n) (q : IncAt X n (m + 1)) (hc : ¬ X.getD m 0 = 255) : incI X = some ((curI X n (m + 1)).set m (X.getD m 0 + 1)) := by
  unfold IncAt at q
  rw [q, take_at 0 (by omega), incI_snoc, if_neg hc, curI_set hX h]
  simp
theorem incAt_none {X : List Int} {n : Nat} (q : IncAt X n 0) : incI X = none := by rw [q]; simp [incI]
theorem incAt_first {X : List Int} {n : Nat} (hX : X.length = n) : IncAt X n n := by
  unfold IncAt
  rw [take_all (by omega), Nat.sub_self]
  simp
theorem bytes_len (a : List UInt8) : (bytesOfStr a).length = a.length := by rw [bytesOfStr, List.length_map]
theorem bytes_ge (a : List UInt8) (i : Nat) : 0 ≤ (bytesOfStr a).getD i 0 ∧ (bytesOfStr a).getD i 0 ≤ 255 := by
  rw [List.getD_eq_getElem?_getD]
  cases e : (bytesOfStr a)[i]? with
  | none => simp
  | some x =>
    have := List.mem_of_getElem? e
    obtain ⟨b, -, rfl⟩ := List.mem_map.1 this
    have := b.toNat_lt
    simp only [Option.getD_some]
    omega
theorem aft_short {a : Str} {n : Nat} (h : (a : List UInt8).length < n) : aftI (bytesOfStr a) n = some ((bytesOfStr a).take n ++ List.drop (a : List UInt8).length (List.replicate n 0)) := by
  rw [aftI, if_pos (by rw [bytes_len]; exact h), List.take_of_length_le (by rw [bytes_len]; omega), List.drop_replicate, bytes_len]
theorem aft_long {a : Str} {n : Nat} (h : n ≤ (a : List UInt8).length) : aftI (bytesOfStr a) n = incI ((bytesOfStr a).take n) := by
  rw [aftI, if_neg (by rw [bytes_len]; omega)]
theorem aftF_some {a : Str} {n : Nat} {x : List Int} (h : aftI (bytesOfStr a) n = some x) : aftF a n = (strOfBytes x, true) := by rw [aftF, h]
theorem aftF_none {a : Str} {n : Nat} (h : aftI (bytesOfStr a) n = none) : aftF a n = ([], false) := by rw [aftF, h]
theorem retA {u v : Str × Bool} (h : u = v) : (some ((u.1, ()), (u.2, ()), ()) : Option ((Str × Unit) × (Bool × Unit) × Unit)) = some ((v.1, ()), (v.2, ()), ()) := by rw [h]
def sAbove : PSpec := ⟨[.d .str, .d (.int .i64)], [⟨false, [.d .str]⟩, ⟨false, [.d .bool]⟩], fun x => List.length x.1 ≤ 1000 ∧ 0 ≤ x.2.1 ∧ x.2.1 ≤ 1000, fun x => (((aftF x.1 x.2.1.toNat).1, ()), ((aftF x.1 x.2.1.toNat).2, ()), ())⟩
theorem fAbove : FnOk Try.prog 21 := ⟨_, Try.func21, by decide, rfl⟩
theorem pAbove : PSound Try.prog 21 sAbove := by
  refine psound (T := tab) (S := (spOf [])) (keep := k21) (by kernel_rfl) tabOk spNil (by kernel_rfl) Try.func21 (by kernel_rfl) (by decide) fun xs hg hp => ?_
  obtain ⟨a, n, ⟨⟩⟩ := xs
  change Str at a
  change Int at n
  change a.length ≤ 1000 ∧ 0 ≤ n ∧ n ≤ 1000 at hp
  obtain ⟨hp, hn0, hn⟩ := hp
  obtain ⟨n, rfl⟩ := Int.eq_ofNat_of_zero_le hn0
  clear hg
  show vfun tab _ k21 Try.f21 [.s a, .i .i64 n] [] _
  refine Ev.out ?_
  repeat' (first | ((with_reducible refine Ev.mk ?_); conv => whnf) | (with_reducible refine And.intro ?_ ?_) | (intro h))
  all_goals (try simp only [decide_eq_true_eq, decide_eq_false_iff_not, beq_iff_eq, bne_iff_ne, beq_eq_false_iff_ne, bne_eq_false_iff_eq, Int.toNat_natCast, ge_iff_le, gt_iff_lt, Bool.not_eq_true', Bool.not_eq_false', Int.not_lt, Int.not_le, ne_eq] at *)
  all_goals (try dsimp only [Ty.den, Ty.dflt, StrT] at *)
  all_goals (try simp only [eq4, ne4, eq3, ne3, eq2, ne2, Prod.eta, List.length_cons, List.length_nil, List.length_append, Nat.zero_add] at *)
  all_goals (try simp (disch := omega) only [wrap64] at *)
  all_goals try first | exact leafDraw (by kernel_rfl) | exact Leaf.mk trivial | (refine Leaf.mk ?_; omega) | (refine Leaf.mk ?_; unfold maxLen; omega)
  all_goals try simp only [List.length_replicate] at *
  · refine Leaf.mk (retA (u := (_, true)) (v := aftF a n) ?_)
    rw [aftF_some (aft_short (by omega))]; rfl
  · have hX : ((bytesOfStr a).take n).length = n := by rw [List.length_take, bytes_len]; omega
    have hal := aft_long (a := a) (n := n) (by omega)
    have hst : (bytesOfStr a).take n ++ List.drop (a : List UInt8).length (List.replicate n 0) = curI ((bytesOfStr a).take n) n n := by
      rw [curI, Nat.sub_self, List.drop_eq_nil_of_le (show (List.replicate n (0 : Int)).length ≤ (a : List UInt8).length by rw [List.length_replicate]; omega), List.take_of_length_le (show ((bytesOfStr a).take n).length ≤ n by omega)]; rfl
    have hX0 : ∀ i, 0 ≤ ((bytesOfStr a).take n).getD i 0 ∧ ((bytesOfStr a).take n).getD i 0 ≤ 255 := fun i => by
      by_cases hi : i < n
      · rw [List.getD_eq_getElem?_getD, List.getElem?_take_of_lt hi, ← List.getD_eq_getElem?_getD]; exact bytes_ge a i
      · rw [List.getD_eq_getElem?_getD, List.getElem?_eq_none (by omega)]; simp
    rw [hst]
    generalize (bytesOfStr a).take n = X at *
    refine LoopVC.on (fun m : Nat => [(7, .i .i64 ((m : Int) - 1))]) (fun m => [(0, .arr 5 (.int .u8) (curI X n m))]) (fun m => m ≤ n ∧ IncAt X n m) (fun m => m) n rfl ⟨Nat.le_refl _, incAt_first hX⟩ ?_
    intro m ⟨hm, hq⟩
    have hcl := curI_len hX hm
    repeat' (first | ((with_reducible refine Ev.mk ?_); conv => whnf) | (with_reducible refine And.intro ?_ ?_) | (intro h))
    all_goals (try simp only [decide_eq_true_eq, decide_eq_false_iff_not, beq_iff_eq, bne_iff_ne, beq_eq_false_iff_ne, bne_eq_false_iff_eq, Int.toNat_natCast, ge_iff_le, gt_iff_lt, Bool.not_eq_true', Bool.not_eq_false', Int.not_lt, Int.not_le, ne_eq] at *)
    all_goals (try dsimp only [Ty.den, Ty.dflt, StrT] at *)
    all_goals (try simp only [eq4, ne4, eq3, ne3, eq2, ne2, Prod.eta, List.length_cons, List.length_nil, List.length_append, Nat.zero_add] at *)
    all_goals (try simp (disch := omega) only [wrap64] at *)
    all_goals try first | exact leafDraw (by kernel_rfl) | exact Leaf.mk trivial | (refine Leaf.mk ?_; omega) | (refine Leaf.mk ?_; unfold maxLen; omega)
    all_goals try first
      | exact Leaf.mk (by omega)
      | (refine Leaf.mk ?_; rw [List.length_set]; omega)
    · obtain ⟨m, rfl⟩ : ∃ k, m = k + 1 := ⟨m - 1, by omega⟩
      rw [show (((m + 1 : Nat) : Int) - 1).toNat = m by omega] at *
      have hg := curI_get hX (show m < n by omega)
      have h0 := hX0 m
      rw [hg] at h ⊢
      refine Leaf.mk (retA (u := (_, true)) (v := aftF a n) ?_)
      have hne : ¬ X.getD m 0 = 255 := fun hc => by
        rw [hc] at h
        rw [List.getD_eq_getElem?_getD, List.getElem?_set_self (by omega)] at h
        exact h rfl
      rw [aftF_some (hal.trans (incAt_done hX (by omega) hq hne)), wrapU8, Int.emod_eq_of_lt (by omega) (by omega)]; rfl
    · obtain ⟨m, rfl⟩ : ∃ k, m = k + 1 := ⟨m - 1, by omega⟩
      rw [show (((m + 1 : Nat) : Int) - 1).toNat = m by omega] at *
      have hg := curI_get hX (show m < n by omega)
      have h0 := hX0 m
      rw [hg] at h ⊢
      have he : X.getD m 0 = 255 := Classical.byContradiction fun hc => by
        rw [List.getD_eq_getElem?_getD, List.getElem?_set_self (by omega), Option.getD_some, wrapU8, Int.emod_eq_of_lt (by omega) (by omega)] at h
        omega
      refine Leaf.mk ⟨m, ?_, ⟨by omega, incAt_next hX (by omega) hq he⟩, by omega⟩
      rw [he, show IntKind.u8.wrap (255 + 1) = 0 from rfl, curI_next hX (by omega), show (((m + 1 : Nat) : Int) - 1 - 1) = (m : Int) - 1 by omega]
      rfl
    · obtain rfl : m = 0 := by omega
      refine Leaf.mk (retA (u := ([], false)) (v := aftF a n) ?_)
      rw [aftF_none (hal.trans (incAt_none hq))]
end Go.Proofs.Ytbmnhcffmgicnaa

set_option linter.unusedVariables false
set_option linter.unusedSimpArgs false
set_option maxRecDepth 8000
set_option maxHeartbeats 4000000
namespace Go.Proofs.Ytbmnhcffmgicnaa
open Go.Eng
def BS (X : List Int) : Prop := ∀ x ∈ X, 0 ≤ x ∧ x ≤ 255
theorem BS.tail {c : Int} {r : List Int} (h : BS (c :: r)) : BS r := fun x hx => h x (List.mem_cons_of_mem _ hx)
theorem BS.head {c : Int} {r : List Int} (h : BS (c :: r)) : 0 ≤ c ∧ c ≤ 255 := h c List.mem_cons_self
theorem bs_bytes (a : List UInt8) : BS (bytesOfStr a) := fun x hx => by
  obtain ⟨b, -, rfl⟩ := List.mem_map.1 hx
  have := b.toNat_lt
  omega
theorem zeros_le : ∀ (k : Nat) (Z : List Int), BS Z → Z.length = k → ¬ Z < List.replicate k 0
  | 0, Z, _, h => by rw [List.eq_nil_of_length_eq_zero h]; simp
  | k + 1, [], _, h => by simp at h
  | k + 1, d :: s, hB, h => by
    rw [List.replicate_succ, List.cons_lt_cons_iff]
    have h1 := hB.head
    have h2 := zeros_le k s hB.tail (by simpa using h)
    rintro (h3 | ⟨-, h3⟩)
    · omega
    · exact h2 h3
theorem incI_spec : ∀ (X : List Int), BS X → match incI X with
    | some Y => Y.length = X.length ∧ BS Y ∧ X < Y ∧ ∀ Z, BS Z → Z.length = X.length → X < Z → ¬ Z < Y
    | none => ∀ Z, BS Z → Z.length = X.length → ¬ X < Z
  | [], _ => by
    rw [incI]
    intro Z _ h
    rw [List.eq_nil_of_length_eq_zero h]; simp
  | c :: r, hB => by
    have ih := incI_spec r hB.tail
    have hc := hB.head
    rw [incI]
    cases e : incI r with
    | some r' =>
      rw [e] at ih
      obtain ⟨h1, h2, h3, h4⟩ := ih
      refine ⟨by simp [h1], fun x hx => ?_, by rw [List.cons_lt_cons_iff]; exact .inr ⟨rfl, h3⟩, fun Z hZ hl hlt => ?_⟩
      · rcases List.mem_cons.1 hx with rfl | hx
        · exact hc
        · exact h2 x hx
      · cases Z with
        | nil => simp at hl
        | cons d s =>
          rw [List.cons_lt_cons_iff] at hlt ⊢
          rintro (h5 | ⟨h5, h6⟩)
          · rcases hlt with h | ⟨h, -⟩ <;> omega
          · rcases hlt with h | ⟨-, h⟩
            · omega
            · exact h4 s hZ.tail (by simpa using hl) h h6
    | none =>
      rw [e] at ih
      by_cases h255 : c = 255
      · simp only [h255, if_true]
        intro Z hZ hl hlt
        cases Z with
        | nil => simp at hl
        | cons d s =>
          have hd := hZ.head
          rw [List.cons_lt_cons_iff] at hlt
          rcases hlt with h | ⟨-, h⟩
          · omega
          · exact ih s hZ.tail (by simpa using hl) h
      · simp only [h255, if_false]
        refine ⟨by simp, fun x hx => ?_, by rw [List.cons_lt_cons_iff]; exact .inl (by omega), fun Z hZ hl hlt => ?_⟩
        · rcases List.mem_cons.1 hx with rfl | hx
          · omega
          · rw [(List.mem_replicate.1 hx).2]; omega
        · cases Z with
          | nil => simp at hl
          | cons d s =>
            rw [List.cons_lt_cons_iff] at hlt ⊢
            have hs : s.length = r.length := by simpa using hl
            have hno := ih s hZ.tail hs
            rintro (h5 | ⟨h5, h6⟩)
            · rcases hlt with h | ⟨-, h⟩
              · omega
              · exact hno h
            · exact zeros_le _ s hZ.tail hs h6
theorem lt_take_iff {α : Type} [LT α] [DecidableEq α] [DecidableLT α] : ∀ (x a : List α), a < x ↔ a.take x.length < x
  | [], a => by simp
  | c :: r, [] => by simp
  | c :: r, d :: s => by
    rw [List.length_cons, List.take_succ_cons, List.cons_lt_cons_iff, List.cons_lt_cons_iff, lt_take_iff r s]
theorem pad_spec : ∀ (a : List Int) (k : Nat), 0 < k → a < a ++ List.replicate k 0 ∧ ∀ Z, BS Z → Z.length = a.length + k → a < Z → ¬ Z < a ++ List.replicate k 0
  | [], k, hk => by
    obtain ⟨j, rfl⟩ : ∃ j, k = j + 1 := ⟨k - 1, by omega⟩
    refine ⟨by simp [List.replicate_succ], fun Z hZ hl _ => zeros_le _ Z hZ (by simpa using hl)⟩
  | c :: r, k, hk => by
    obtain ⟨h1, h2⟩ := pad_spec r k hk
    refine ⟨by rw [List.cons_append, List.cons_lt_cons_iff]; exact .inr ⟨rfl, h1⟩, fun Z hZ hl hlt => ?_⟩
    cases Z with
    | nil => simp at hl; omega
    | cons d s =>
      rw [List.cons_append, List.cons_lt_cons_iff] at *
      rintro (h5 | ⟨h5, h6⟩)
      · rcases hlt with h | ⟨h, -⟩ <;> omega
      · rcases hlt with h | ⟨-, h⟩
        · omega
        · exact h2 s hZ.tail (by simp at hl; omega) h h6
theorem aftI_spec (a : List Int) (n : Nat) (hB : BS a) : match aftI a n with
    | some Y => Y.length = n ∧ BS Y ∧ a < Y ∧ ∀ Z, BS Z → Z.length = n → a < Z → ¬ Z < Y
    | none => ∀ Z, BS Z → Z.length = n → ¬ a < Z := by
  by_cases h : a.length < n
  · rw [aftI, if_pos h]
    obtain ⟨h1, h2⟩ := pad_spec a (n - a.length) (by omega)
    refine ⟨by simp; omega, fun x hx => ?_, h1, fun Z hZ hl => h2 Z hZ (by omega)⟩
    rcases List.mem_append.1 hx with hx | hx
    · exact hB x hx
    · rw [(List.mem_replicate.1 hx).2]; omega
  · rw [aftI, if_neg h]
    have hl : (a.take n).length = n := by rw [List.length_take]; omega
    have hs := incI_spec (a.take n) (fun x hx => hB x (List.mem_of_mem_take hx))
    rw [hl] at hs
    cases e : incI (a.take n) with
    | some Y =>
      rw [e] at hs
      obtain ⟨h1, h2, h3, h4⟩ := hs
      refine ⟨h1, h2, (lt_take_iff Y a).2 (by rw [h1]; exact h3), fun Z hZ hz hlt => h4 Z hZ hz ?_⟩
      have := (lt_take_iff Z a).1 hlt
      rwa [hz] at this
    | none =>
      rw [e] at hs
      intro Z hZ hz hlt
      have := (lt_take_iff Z a).1 hlt
      rw [hz] at this
      exact hs Z hZ hz this
theorem bytes_lt : ∀ (a b : List UInt8), bytesOfStr a < bytesOfStr b ↔ a < b
  | [], [] => by simp [bytesOfStr]
  | [], d :: s => by simp [bytesOfStr]
  | c :: r, [] => by simp [bytesOfStr]
  | c :: r, d :: s => by
    have ih := bytes_lt r s
    rw [show bytesOfStr (c :: r) = (c.toNat : Int) :: bytesOfStr r from rfl, show bytesOfStr (d :: s) = (d.toNat : Int) :: bytesOfStr s from rfl,
      List.cons_lt_cons_iff, List.cons_lt_cons_iff, ih, UInt8.lt_iff_toNat_lt, ← UInt8.toNat_inj]
    simp only [Int.ofNat_lt, Int.ofNat_inj]
theorem bytes_str : ∀ (Y : List Int), BS Y → bytesOfStr (strOfBytes Y) = Y
  | [], _ => rfl
  | c :: r, h => by
    have ih := bytes_str r h.tail
    have hc := h.head
    show (((UInt8.ofNat c.toNat).toNat : Nat) : Int) :: bytesOfStr (strOfBytes r) = _
    rw [ih, UInt8.toNat_ofNat']
    congr 1
    omega
theorem str_bytes : ∀ (a : List UInt8), strOfBytes (bytesOfStr a) = a
  | [] => rfl
  | c :: r => by
    have ih := str_bytes r
    show UInt8.ofNat ((c.toNat : Int)).toNat :: strOfBytes (bytesOfStr r) = _
    rw [ih]; simp
theorem aft_some {a : Str} {n : Nat} (h : (aftF a n).2 = true) : (aftF a n).1.length = n ∧ (a : List UInt8) < (aftF a n).1 ∧ ∀ y : List UInt8, y.length = n → (a : List UInt8) < y → ¬ y < (aftF a n).1 := by
  have hs := aftI_spec (bytesOfStr a) n (bs_bytes a)
  unfold aftF at *
  cases e : aftI (bytesOfStr a) n with
  | none => rw [e] at h; cases h
  | some Y =>
    rw [e] at hs
    obtain ⟨h1, h2, h3, h4⟩ := hs
    dsimp only
    have hb := bytes_str Y h2
    refine ⟨by rw [← bytes_len, hb]; exact h1, (bytes_lt _ _).1 (by rw [hb]; exact h3), fun y hy hlt => ?_⟩
    rw [← bytes_lt, hb]
    exact h4 _ (bs_bytes y) (by rw [bytes_len]; exact hy) ((bytes_lt _ _).2 hlt)
def okN (a b : Str) (n : Nat) : Bool := (aftF a n).2 && !sless b (aftF a n).1
def firstN (a b : Str) : Nat → Nat → Str
  | 0, _ => b
  | f + 1, n => if okN a b n = true then (aftF a n).1 else firstN a b f (n + 1)
def fromN (a b : Str) (n : Nat) : Str := firstN a b ((b : List UInt8).length + 1 - n) n
def betweenF (a b : Str) : Str := if sless a b = true then fromN a b 1 else b
theorem fromN_yes {a b : Str} {n : Nat} (h : n ≤ (b : List UInt8).length) (ho : okN a b n = true) : fromN a b n = (aftF a n).1 := by
  rw [fromN, show (b : List UInt8).length + 1 - n = ((b : List UInt8).length - n) + 1 by omega, firstN, if_pos ho]
theorem fromN_no {a b : Str} {n : Nat} (h : n ≤ (b : List UInt8).length) (ho : okN a b n = false) : fromN a b n = fromN a b (n + 1) := by
  rw [fromN, show (b : List UInt8).length + 1 - n = ((b : List UInt8).length - n) + 1 by omega, firstN, if_neg (by rw [ho]; simp), fromN,
    show (b : List UInt8).length + 1 - (n + 1) = (b : List UInt8).length - n by omega]
theorem fromN_end {a b : Str} : fromN a b ((b : List UInt8).length + 1) = b := by rw [fromN, Nat.sub_self]; rfl
theorem skip_one {a b : Str} {n k : Nat} (hk : (a : List UInt8).take k = List.take k b) (hn : n ≤ k) (hka : k ≤ (a : List UInt8).length) : okN a b n = false := by
  cases e : (aftF a n).2 with
  | false => rw [okN, e]; rfl
  | true =>
    obtain ⟨h1, h2, -⟩ := aft_some e
    have h3 := (lt_take_iff _ _).1 h2
    rw [h1] at h3
    have h4 : (a : List UInt8).take n = List.take n b := by
      have := congrArg (List.take n) hk
      rwa [List.take_take, List.take_take, Nat.min_eq_left hn] at this
    rw [h4] at h3
    have h5 := (lt_take_iff (aftF a n).1 b).2 (by rw [h1]; exact h3)
    rw [okN, sless_iff.2 h5]; simp
theorem skip_all {a b : Str} {k : Nat} (hk : (a : List UInt8).take k = List.take k b) (hka : k ≤ (a : List UInt8).length) (hkb : k ≤ (b : List UInt8).length) : fromN a b 1 = fromN a b (k + 1) := by
  have gen : ∀ n, n ≤ k → fromN a b 1 = fromN a b (n + 1) := by
    intro n
    induction n with
    | zero => intro _; rfl
    | succ n ih =>
      intro h
      rw [ih (by omega), fromN_no (by omega) (skip_one hk h hka)]
  exact gen k (Nat.le_refl _)
theorem pre_lt {a b : List UInt8} {k : Nat} (hk : a.take k = b.take k) (hab : a < b) (hka : k ≤ a.length) (hkb : k ≤ b.length) : k < b.length ∧ (k < a.length → ¬ b.getD k 0 < a.getD k 0) := by
  have gen : ∀ (k : Nat) (a b : List UInt8), a.take k = b.take k → a < b → k ≤ a.length → k ≤ b.length → k < b.length ∧ (k < a.length → ¬ b.getD k 0 < a.getD k 0) := by
    intro k
    induction k with
    | zero =>
      intro a b _ hab _ _
      cases b with
      | nil => exact absurd hab (List.not_lt_nil _)
      | cons d s =>
        refine ⟨by simp, fun h => ?_⟩
        cases a with
        | nil => simp at h
        | cons c r =>
          rw [List.cons_lt_cons_iff] at hab
          simp only [List.getD_cons_zero, UInt8.lt_iff_toNat_lt, ← UInt8.toNat_inj] at *
          omega
    | succ k ih =>
      intro a b hk hab hka hkb
      cases a with
      | nil => simp at hka
      | cons c r =>
        cases b with
        | nil => simp at hkb
        | cons d s =>
          simp only [List.take_succ_cons, List.cons.injEq] at hk
          obtain ⟨rfl, hk⟩ := hk
          rw [List.cons_lt_cons_iff] at hab
          have h := ih r s hk (hab.elim (fun h => absurd h (by simp [UInt8.lt_iff_toNat_lt])) (·.2)) (by simpa using hka) (by simpa using hkb)
          simpa using h
  exact gen k a b hk hab hka hkb
theorem pre_step {a b : List UInt8} {k : Nat} (hk : a.take k = b.take k) (hka : k < a.length) (hkb : k < b.length) (he : a.getD k 0 = b.getD k 0) : a.take (k + 1) = b.take (k + 1) := by
  rw [take_at 0 hka, take_at 0 hkb, hk, he]
theorem quick {a b : Str} {k : Nat} (hk : (a : List UInt8).take k = List.take k b) (hka : k < (a : List UInt8).length) (hkb : k < (b : List UInt8).length) (hlt : (((a : List UInt8).getD k 0).toNat : Int) + 1 < ((List.getD b k 0).toNat : Int)) :
    fromN a b 1 = List.take k a ++ strOfBytes [((((a : List UInt8).getD k 0).toNat : Nat) : Int) + 1] := by
  rw [skip_all hk (by omega) (by omega)]
  have hd := (List.getD b k 0).toNat_lt
  have hget : (bytesOfStr a).getD k 0 = (((a : List UInt8).getD k 0).toNat : Int) := by
    rw [bytesOfStr, List.getD_eq_getElem?_getD, List.getElem?_map, List.getD_eq_getElem?_getD, List.getElem?_eq_getElem hka]; rfl
  have hI : aftI (bytesOfStr a) (k + 1) = some ((bytesOfStr a).take k ++ [(((a : List UInt8).getD k 0).toNat : Int) + 1]) := by
    rw [aft_long (by omega), take_at 0 (by rw [bytes_len]; exact hka), incI_snoc, if_neg (by rw [hget]; omega), hget]
  have hA : aftF a (k + 1) = (List.take k a ++ strOfBytes [((((a : List UInt8).getD k 0).toNat : Nat) : Int) + 1], true) := by
    rw [aftF_some hI]
    have e2 : strOfBytes ((bytesOfStr a).take k ++ [(((a : List UInt8).getD k 0).toNat : Int) + 1]) = strOfBytes ((bytesOfStr a).take k) ++ strOfBytes [(((a : List UInt8).getD k 0).toNat : Int) + 1] := by
      unfold strOfBytes; rw [List.map_append]
    rw [e2, show (bytesOfStr a).take k = bytesOfStr (List.take k a) by unfold bytesOfStr; rw [List.map_take], str_bytes]
  rw [fromN_yes (by omega) ?_, hA]
  rw [okN, hA]
  simp only [Bool.true_and, Bool.not_eq_true']
  cases e : sless b (List.take k a ++ strOfBytes [((((a : List UInt8).getD k 0).toNat : Nat) : Int) + 1]) with
  | false => rfl
  | true =>
    exfalso
    have h1 := (bytes_lt _ _).2 (sless_iff.1 e)
    have h2 := (lt_take_iff _ _).1 h1
    have e3 : bytesOfStr (List.take k a ++ strOfBytes [((((a : List UInt8).getD k 0).toNat : Nat) : Int) + 1]) = bytesOfStr (List.take k b) ++ [((((a : List UInt8).getD k 0).toNat : Nat) : Int) + 1] := by
      rw [← hk]
      have := bytes_str [((((a : List UInt8).getD k 0).toNat : Nat) : Int) + 1] (fun x hx => by rw [List.mem_singleton.1 hx]; omega)
      unfold bytesOfStr at *
      rw [List.map_append, this]
    have hgb : (bytesOfStr b).getD k 0 = ((List.getD b k 0).toNat : Int) := by
      rw [bytesOfStr, List.getD_eq_getElem?_getD, List.getElem?_map, List.getD_eq_getElem?_getD, List.getElem?_eq_getElem hkb]; rfl
    rw [e3] at h2
    have hl : (bytesOfStr (List.take k b) ++ [((((a : List UInt8).getD k 0).toNat : Nat) : Int) + 1]).length = k + 1 := by
      rw [List.length_append, bytes_len, List.length_take, List.length_singleton]; omega
    rw [hl, take_at 0 (by rw [bytes_len]; exact hkb), hgb, show (bytesOfStr b).take k = bytesOfStr (List.take k b) by unfold bytesOfStr; rw [List.map_take]] at h2
    have gen : ∀ (p : List Int) (c d : Int), p ++ [c] < p ++ [d] → c < d := by
      intro p
      induction p with
      | nil => intro c d h; rw [List.nil_append, List.nil_append, List.cons_lt_cons_iff] at h; rcases h with h | ⟨-, h⟩; exact h; exact absurd h (List.not_lt_nil _)
      | cons x p ih => intro c d h; rw [List.cons_append, List.cons_append, List.cons_lt_cons_iff] at h; rcases h with h | ⟨-, h⟩; omega; exact ih c d h
    have := gen _ _ _ h2
    omega
end Go.Proofs.Ytbmnhcffmgicnaa

set_option linter.unusedVariables false
set_option linter.unusedSimpArgs false
set_option maxRecDepth 8000
set_option maxHeartbeats 4000000
namespace Go.Proofs.Ytbmnhcffmgicnaa
open Go.Eng
theorem sle_not (x b : List UInt8) : (sless x b || x == b) = !sless b x := by
  cases h : sless b x with
  | true =>
    have h1 := sless_iff.1 h
    have h2 : sless x b = false := by rw [sless_eq]; exact decide_eq_false (slt_asymm h1)
    have h3 : ¬ x = b := fun hc => by rw [hc] at h1; exact slt_irrefl _ h1
    simp [h2, h3]
  | false =>
    by_cases h1 : x < b
    · simp [sless_iff.2 h1]
    · have : x = b := slt_total h1 (fun hc => by rw [sless_iff.2 hc] at h; cases h)
      simp [this]
theorem ok_yes {a b : Str} {n : Nat} (h : (aftF a n).2 = true) (h2 : (sless (aftF a n).1 b || (aftF a n).1 == b) = true) : okN a b n = true := by
  rw [sle_not] at h2; rw [okN, h, h2]; rfl
theorem ok_no {a b : Str} {n : Nat} (h2 : (sless (aftF a n).1 b || (aftF a n).1 == b) = false) : okN a b n = false := by
  rw [sle_not] at h2; rw [okN, h2, Bool.and_false]
theorem ok_no' {a b : Str} {n : Nat} (h : (aftF a n).2 = false) : okN a b n = false := by rw [okN, h]; rfl
theorem fromN_last {a b : Str} (h : okN a b (List.length b) = false) : fromN a b (List.length b) = b := by
  rw [fromN_no (Nat.le_refl _) h]; exact fromN_end
def sShortest : PSpec := ⟨[.d .str, .d .str], [⟨false, [.d .str]⟩], fun x => List.length x.1 ≤ 1000 ∧ List.length x.2.1 ≤ 1000, fun x => ((fromN x.1 x.2.1 (List.length x.2.1), ()), ())⟩
theorem fShortest : FnOk Try.prog 22 := ⟨_, Try.func22, by decide, rfl⟩
theorem pShortest : PSound Try.prog 22 sShortest := by
  refine psound (T := tab) (S := (spOf [(21, sAbove.spec (lsOf []))])) (keep := k22) (by kernel_rfl) tabOk (spCons (pOk pAbove fAbove (by decide) lsNil) spNil) (by kernel_rfl) Try.func22 (by kernel_rfl) (by decide) fun xs hg hp => ?_
  obtain ⟨a, b, ⟨⟩⟩ := xs
  change Str at a b
  change a.length ≤ 1000 ∧ b.length ≤ 1000 at hp
  clear hg
  show vfun tab _ k22 Try.f22 [.s a, .s b] [] _
  refine Ev.out ?_
  repeat' (first | ((with_reducible refine Ev.mk ?_); conv => whnf) | (with_reducible refine And.intro ?_ ?_) | (intro h))
  all_goals (try simp only [decide_eq_true_eq, decide_eq_false_iff_not, beq_iff_eq, bne_iff_ne, beq_eq_false_iff_ne, bne_eq_false_iff_eq, Int.toNat_natCast, ge_iff_le, gt_iff_lt, Bool.not_eq_true', Bool.not_eq_false', Int.not_lt, Int.not_le, ne_eq] at *)
  all_goals (try dsimp only [Ty.den, Ty.dflt, StrT] at *)
  all_goals (try simp only [eq4, ne4, eq3, ne3, eq2, ne2, Prod.eta, List.length_cons, List.length_nil, List.length_append, Nat.zero_add] at *)
  all_goals (try simp (disch := omega) only [wrap64] at *)
  all_goals try first | exact leafDraw (by kernel_rfl) | exact Leaf.mk trivial | (refine Leaf.mk ?_; omega) | (refine Leaf.mk ?_; unfold maxLen; omega)
  · exact Leaf.mk (show a.length ≤ 1000 ∧ 0 ≤ ((b.length : Nat) : Int) ∧ ((b.length : Nat) : Int) ≤ 1000 by omega)
  all_goals refine Leaf.mk (ret1 (show _ = fromN a b (List.length b) from ?_))
  · exact (fromN_yes (Nat.le_refl _) (ok_yes ‹_› ‹_›)).symm
  · exact (fromN_last (ok_no ‹_›)).symm
  · exact (fromN_last (ok_no' ‹_›)).symm
def sBetween : PSpec := ⟨[.d .str, .d .str], [⟨false, [.d .str]⟩], fun x => List.length x.1 ≤ 1000 ∧ List.length x.2.1 ≤ 1000, fun x => ((betweenF x.1 x.2.1, ()), ())⟩
theorem fBetween : FnOk Try.prog 12 := ⟨_, Try.func12, by decide, rfl⟩
theorem pBetween : PSound Try.prog 12 sBetween := by
  refine psound (T := tab) (S := (spOf [(21, sAbove.spec (lsOf [])), (22, sShortest.spec (lsOf []))])) (keep := k12) (by kernel_rfl) tabOk (spCons (pOk pAbove fAbove (by decide) lsNil) (spCons (pOk pShortest fShortest (by decide) lsNil) spNil)) (by kernel_rfl) Try.func12 (by kernel_rfl) (by decide) fun xs hg hp => ?_
  obtain ⟨a, b, ⟨⟩⟩ := xs
  change Str at a b
  change a.length ≤ 1000 ∧ b.length ≤ 1000 at hp
  clear hg
  show vfun tab _ k12 Try.f12 [.s a, .s b] [] _
  refine Ev.out ?_
  repeat' (first | ((with_reducible refine Ev.mk ?_); conv => whnf) | (with_reducible refine And.intro ?_ ?_) | (intro h))
  all_goals (try simp only [decide_eq_true_eq, decide_eq_false_iff_not, beq_iff_eq, bne_iff_ne, beq_eq_false_iff_ne, bne_eq_false_iff_eq, Int.toNat_natCast, ge_iff_le, gt_iff_lt, Bool.not_eq_true', Bool.not_eq_false', Int.not_lt, Int.not_le, ne_eq] at *)
  all_goals (try dsimp only [Ty.den, Ty.dflt, StrT] at *)
  all_goals (try simp only [eq4, ne4, eq3, ne3, eq2, ne2, Prod.eta, List.length_cons, List.length_nil, List.length_append, Nat.zero_add] at *)
  all_goals (try simp (disch := omega) only [wrap64] at *)
  all_goals try first | exact leafDraw (by kernel_rfl) | exact Leaf.mk trivial | (refine Leaf.mk ?_; omega) | (refine Leaf.mk ?_; unfold maxLen; omega)
  · exact Leaf.mk (ret1 (show b = betweenF a b by rw [betweenF, if_neg (by rw [h]; simp)]))
  have hab := sless_iff.1 h
  have hB : betweenF a b = fromN a b 1 := if_pos h
  clear h
  refine LoopVC.on (fun k : Nat => [(5, .i .i64 k)]) (fun _ => []) (fun k => k ≤ a.length ∧ k ≤ b.length ∧ a.take k = List.take k b) (fun k => a.length - k) 0 rfl ⟨by omega, by omega, rfl⟩ ?_
  intro k ⟨hka, hkb, hk⟩
  obtain ⟨hkb', hge⟩ := pre_lt hk hab hka hkb
  repeat' (first | ((with_reducible refine Ev.mk ?_); conv => whnf) | (with_reducible refine And.intro ?_ ?_) | (intro h))
  all_goals (try simp only [decide_eq_true_eq, decide_eq_false_iff_not, beq_iff_eq, bne_iff_ne, beq_eq_false_iff_ne, bne_eq_false_iff_eq, Int.toNat_natCast, ge_iff_le, gt_iff_lt, Bool.not_eq_true', Bool.not_eq_false', Int.not_lt, Int.not_le, ne_eq] at *)
  all_goals (try dsimp only [Ty.den, Ty.dflt, StrT] at *)
  all_goals (try simp only [eq4, ne4, eq3, ne3, eq2, ne2, Prod.eta, List.length_cons, List.length_nil, List.length_append, Nat.zero_add] at *)
  all_goals (try simp (disch := omega) only [wrap64] at *)
  all_goals try first | exact leafDraw (by kernel_rfl) | exact Leaf.mk trivial | (refine Leaf.mk ?_; omega) | (refine Leaf.mk ?_; unfold maxLen; omega)
  all_goals try
    have hne := ‹¬ (((List.getD a k 0).toNat : Nat) : Int) = (((List.getD b k 0).toNat : Nat) : Int)›
    have hac : k < a.length := by omega
    have hge := hge hac
    rw [UInt8.lt_iff_toNat_lt] at hge
    have hbt := (List.getD b k 0).toNat_lt
    have hw : IntKind.u8.wrap ((((List.getD a k 0).toNat : Nat) : Int) + 1) = (((List.getD a k 0).toNat : Nat) : Int) + 1 := by rw [wrapU8, Int.emod_eq_of_lt (by omega) (by omega)]
    simp only [hw] at *
  all_goals try first
    | (refine Leaf.mk ⟨k + 1, rfl, ⟨by omega, by omega, pre_step hk (by omega) hkb' ?_⟩, by omega⟩
       have := ‹(((List.getD a k 0).toNat : Nat) : Int) = (((List.getD b k 0).toNat : Nat) : Int)›
       rw [← UInt8.toNat_inj]; omega)
    | (refine Leaf.mk ?_
       rw [List.length_drop, List.length_take]
       show _ + 1 ≤ maxLen
       unfold maxLen; omega)
    | (refine Leaf.mk (ret1 (show _ = betweenF a b from ?_))
       rw [hB, quick hk hac hkb' (by omega), Int.toNat_zero, List.drop_zero])
  all_goals
    have hs : betweenF a b = fromN a b (k + 1) := hB.trans (skip_all hk hka hkb)
    clear hab hB hk
    refine LoopVC.on (fun n : Nat => [(6, .i .i64 n)]) (fun _ => []) (fun n => n ≤ b.length ∧ betweenF a b = fromN a b n) (fun n => b.length - n) (k + 1) rfl ⟨by omega, hs⟩ ?_
    intro n ⟨hn, hq⟩
    repeat' (first | ((with_reducible refine Ev.mk ?_); conv => whnf) | (with_reducible refine And.intro ?_ ?_) | (intro h))
    all_goals (try simp only [decide_eq_true_eq, decide_eq_false_iff_not, beq_iff_eq, bne_iff_ne, beq_eq_false_iff_ne, bne_eq_false_iff_eq, Int.toNat_natCast, ge_iff_le, gt_iff_lt, Bool.not_eq_true', Bool.not_eq_false', Int.not_lt, Int.not_le, ne_eq] at *)
    all_goals (try dsimp only [Ty.den, Ty.dflt, StrT] at *)
    all_goals (try simp only [eq4, ne4, eq3, ne3, eq2, ne2, Prod.eta, List.length_cons, List.length_nil, List.length_append, Nat.zero_add] at *)
    all_goals (try simp (disch := omega) only [wrap64] at *)
    all_goals try first | exact leafDraw (by kernel_rfl) | exact Leaf.mk trivial | (refine Leaf.mk ?_; omega) | (refine Leaf.mk ?_; unfold maxLen; omega)
    all_goals first
      | exact Leaf.mk (show a.length ≤ 1000 ∧ 0 ≤ ((n : Nat) : Int) ∧ ((n : Nat) : Int) ≤ 1000 by omega)
      | exact Leaf.mk (show a.length ≤ 1000 ∧ b.length ≤ 1000 by omega)
      | (refine Leaf.mk (ret1 (show _ = betweenF a b from ?_))
         rw [hq]
         first
         | exact (fromN_yes hn (ok_yes ‹_› ‹_›)).symm
         | (rw [show n = b.length by omega]; rfl))
      | (refine Leaf.mk (Exists.intro (n + 1) ⟨rfl, ⟨by omega, hq.trans (fromN_no hn ?_)⟩, by omega⟩)
         first
         | exact ok_no ‹_›
         | exact ok_no' ‹_›)
      | omega
end Go.Proofs.Ytbmnhcffmgicnaa

set_option linter.unusedVariables false
set_option linter.unusedSimpArgs false
set_option maxRecDepth 8000
set_option pp.maxSteps 900
set_option pp.deepTerms false
set_option maxHeartbeats 4000000
namespace Go.Proofs.Ytbmnhcffmgicnaa
open Go.Proofs Go.RowKit Go.Shelf Go.Lib Go.Eng
theorem below_bytes (w : World) (e : TypeId) (s : ByteArray) : Below w.heap.size w (bytesWorld w e s) :=
  ⟨rfl, rfl, rfl, by rw [bytesWorld_size]; omega, fun j hj => bytesWorld_at_old w e s j hj⟩
def rowV (X : List Int) (n m : Nat) (R : List Value) : Array Value := ((curI X n m).map (Value.int .u8) ++ R).toArray
theorem row_get {X : List Int} {n m : Nat} (hX : X.length = n) (hm : m ≤ n) (R : List Value) {j : Nat} (hj : j < n) : (rowV X n m R)[j]? = some (.int .u8 ((curI X n m).getD j 0)) := by
  have hl := curI_len hX hm
  rw [rowV, List.getElem?_toArray, List.getElem?_append_left (by rw [List.length_map]; omega), List.getElem?_map, List.getD_eq_getElem?_getD, List.getElem?_eq_getElem (by omega)]
  rfl
theorem row_set {X : List Int} {n m : Nat} (hX : X.length = n) (hm : m ≤ n) (R : List Value) {j : Nat} (hj : j < n) (x : Int) : (rowV X n m R).setIfInBounds j (.int .u8 x) = (((curI X n m).set j x).map (Value.int .u8) ++ R).toArray := by
  have hl := curI_len hX hm
  rw [rowV, List.setIfInBounds_toArray, List.set_append_left _ _ (by rw [List.length_map]; omega), List.map_set]
theorem row_cell {W : World} {blk : Nat} {X : List Int} {n m : Nat} {R : List Value} {t : TypeId} {fr : Nat × Nat} (hX : X.length = n) (hm : m ≤ n) (h : W.heap[blk]? = some (.cells (rowV X n m R) t fr)) {j : Nat} (hj : j < n) :
    W.cell? ⟨blk, j, none⟩ = some (.int .u8 ((curI X n m).getD j 0)) := by
  simp only [World.cell?, h]
  rw [row_get hX hm R hj]; rfl
theorem row_str (W : World) (blk cap : Nat) (Y : List Int) (R : List Value) (t : TypeId) (fr : Nat × Nat) (h : W.heap[blk]? = some (.cells ((Y.map (Value.int .u8) ++ R).toArray) t fr)) :
    (convert 41 9 (.slice (some ⟨blk, 0, none⟩) Y.length cap)).run Try.prog W = .ok (.string ⟨⟨strOfBytes Y⟩⟩) W := by
  rw [run_convert_bytes_string W 41 9 5 _ _ _ (by kernel_rfl) (by kernel_rfl) (by kernel_rfl)]
  have hl := run_loadCells_list (P := Try.prog) (w := W) ⟨blk, 0, none⟩ (Y.map (Value.int .u8)) fun j v hv => by
    have hj : j < Y.length := by have := (List.getElem?_eq_some_iff.1 hv).1; rwa [List.length_map] at this
    rw [show (⟨blk, 0, none⟩ : Addr).add j = ⟨blk, j, none⟩ from by cases j <;> simp [Addr.add]]
    simp only [World.cell?, h]
    rw [List.getElem?_toArray, List.getElem?_append_left (by rw [List.length_map]; exact hj), hv]
    simp
  rw [List.length_map] at hl
  rw [run_bytesToString W ⟨blk, 0, none⟩ Y.length cap Y hl]
  have := foldl_push Y []
  rw [List.nil_append] at this
  exact congrArg (fun s => Result.ok (Value.string s) W) this
theorem row_conv {W : World} {blk : Nat} {X : List Int} {n k : Nat} {R : List Value} {t : TypeId} {fr : Nat × Nat} (hX : X.length = n) (hk : k + 1 ≤ n) (h : W.heap[blk]? = some (.cells (rowV X n (k + 1) R) t fr)) (x : Int) (cap : Nat) :
    (convert 41 9 (.slice (some ⟨blk, 0, none⟩) n cap)).run Try.prog (W.setCell ⟨blk, k, none⟩ (.int .u8 x)) = .ok (.string ⟨⟨strOfBytes ((curI X n (k + 1)).set k x)⟩⟩) (W.setCell ⟨blk, k, none⟩ (.int .u8 x)) := by
  have h2 := Go.Joins.block_setCell (i := k) h (.int .u8 x)
  rw [row_set hX hk R (by omega)] at h2
  have h3 := row_str (W.setCell ⟨blk, k, none⟩ (.int .u8 x)) blk cap ((curI X n (k + 1)).set k x) R t fr h2
  rw [List.length_set, curI_len hX hk] at h3
  exact h3
theorem row_next {W : World} {blk : Nat} {X : List Int} {n k : Nat} {R : List Value} {t : TypeId} {fr : Nat × Nat} (hX : X.length = n) (hk : k + 1 ≤ n) (h : W.heap[blk]? = some (.cells (rowV X n (k + 1) R) t fr)) :
    (W.setCell ⟨blk, k, none⟩ (.int .u8 0)).heap[blk]? = some (.cells (rowV X n k R) t fr) := by
  have h2 := Go.Joins.block_setCell (i := k) h (.int .u8 0)
  rw [row_set hX hk R (by omega), curI_next hX (by omega)] at h2
  exact h2
set_option maxRecDepth 100000 in
theorem after_long (a : Str) (n : Nat) (h1 : 1 ≤ n) (hna : n ≤ (a : List UInt8).length) (hl : (a : List UInt8).length ≤ 1000) (w : World) :
    Calls Try.prog 23 #[.string ⟨⟨a⟩⟩, .int .i64 n] w fun e w' => e = .returned (.string ⟨⟨(aftF a n).1⟩⟩) ∧ Below w.heap.size w w' := by
  have hcv : ∀ (w : World) (s : ByteArray), (convert 9 41 (.string s)).run Try.prog w = .ok (.slice (some ⟨w.heap.size, 0, none⟩) s.size (grownCap w s.size 0 5)) (bytesWorld w 5 s) := fun w s =>
    Go.Lib.run_convert_string_bytes w 9 41 5 s (u := .string) (by kernel_rfl) (by kernel_rfl) (by kernel_rfl)
  have hsz : (⟨⟨a⟩⟩ : ByteArray).size = (a : List UInt8).length := rfl
  obtain ⟨s, hs⟩ : ∃ s : ByteArray, s = (⟨⟨a⟩⟩ : ByteArray).extract 0 n := ⟨_, rfl⟩
  have hst : s.data.toList = (a : List UInt8).take n := by rw [hs]; simp
  have hss : s.size = n := by rw [hs]; simp [hsz]; omega
  have hX : ((bytesOfStr a).take n).length = n := by rw [List.length_take, bytes_len]; omega
  have hal := aft_long (a := a) (n := n) (by omega)
  go_enter Try.func23, Try.ntmps23
  go_wp2
  go_loopw [6] (fun i wr => ∃ m : Nat, m ≤ n ∧ i = .int .i64 ((m : Int) - 1) ∧ IncAt ((bytesOfStr a).take n) n m ∧ Below w.heap.size w wr ∧ ∃ R, wr.heap[w.heap.size]? = some (.cells (rowV ((bytesOfStr a).take n) n m R) 5 (n + R.length, n + R.length + 1))) (fun i _ => (intOf i + 1).toNat)
  case atStart =>
    refine ⟨n, Nat.le_refl _, rfl, incAt_first hX, by rw [← hs]; exact below_bytes w 5 s, List.replicate (grownCap w n 0 5 - n) (.int .u8 0), ?_⟩
    rw [← hs, bytesWorld_at_new]
    have e1 : bytesCells w 5 s = rowV ((bytesOfStr a).take n) n n (List.replicate (grownCap w n 0 5 - n) (.int .u8 0)) := by
      rw [bytesCells, hss, rowV, curI, Nat.sub_self, List.replicate_zero, List.append_nil, List.take_of_length_le (by omega)]
      apply Array.ext'
      rw [Array.toList_append, Array.toList_map, Array.toList_replicate, hst]
      congr 1
      rw [bytesOfStr, ← List.map_take, List.map_map]
      rfl
    have e2 : (bytesCells w 5 s).size = n + (List.replicate (grownCap w n 0 5 - n) (Value.int .u8 0)).length := by
      rw [bytesCells]; simp [hss]
    rw [e2, e1]
  case round =>
    obtain ⟨m, hm, rfl, hq, hbel, R, hblk⟩ := hrel
    cases m with
    | zero =>
      rw [show (((0 : Nat) : Int) - 1) = -1 from rfl]
      go_wp2
      go_ret
      refine ⟨?_, hbel⟩
      rw [aftF_none (hal.trans (incAt_none hq))]
      rfl
    | succ k =>
      have hg := curI_get hX (show k < n by omega)
      have hcell : wr.cell? ⟨w.heap.size, k, none⟩ = some (.int .u8 (((bytesOfStr a).take n).getD k 0)) := by
        rw [← hg]; exact row_cell hX hm hblk (by omega)
      have hfr : wr.frozen? ⟨w.heap.size, k, none⟩ = false := by
        simp only [World.frozen?, hblk]
        simp; omega
      have h0 : 0 ≤ ((bytesOfStr a).take n).getD k 0 ∧ ((bytesOfStr a).take n).getD k 0 ≤ 255 := by
        rw [List.getD_eq_getElem?_getD, List.getElem?_take_of_lt (by omega), ← List.getD_eq_getElem?_getD]; exact bytes_ge a k
      have hrel2 := row_next hX hm hblk
      have hcon := row_conv hX hm hblk
      have hnx := fun hc => incAt_next hX (show k < n by omega) hq hc
      have hdn := fun hc => incAt_done hX (show k < n by omega) hq hc
      rw [show (((k + 1 : Nat) : Int) - 1) = (k : Int) by omega]
      generalize ((bytesOfStr a).take n).getD k 0 = x at *
      clear hblk hg
      go_wp2
      · go_ret
        refine ⟨?_, hbel.setCell (Nat.le_refl _) _⟩
        rw [aftF_some (hal.trans (hdn (by omega)))]
        rfl
      · go_roundw
        case rel => exact ⟨k, by omega, rfl, hnx (by omega), hbel.setCell (Nat.le_refl _) _, R, hrel2⟩
        case measure => simp [intOf]
end Go.Proofs.Ytbmnhcffmgicnaa

set_option linter.unusedVariables false
set_option linter.unusedSimpArgs false
set_option maxRecDepth 8000
set_option maxHeartbeats 4000000
namespace Go.Proofs.Ytbmnhcffmgicnaa
open Go.Eng
def sAwake33 : PSpec := ⟨[], [⟨false, [.d .bool]⟩], fun _ => True, fun _ => ((true, ()), ())⟩
theorem fAwake33 : FnOk Try.prog 4 := ⟨_, Try.func4, by decide, rfl⟩
theorem pAwake33 : PSound Try.prog 4 sAwake33 := by
  refine psound (T := tab) (S := (spOf [(8, sPivots.spec (lsOf [])), (14, sCounts.spec (lsOf [])), (15, sMerge.spec (lsOf [])), (16, sLevel.spec (lsOf [])), (6, sSorted.spec (lsOf [])), (17, sSkew.spec (lsOf [])), (10, sPlace33.spec (lsOf [])), (12, sBetween.spec (lsOf []))])) (keep := k4) (by kernel_rfl) tabOk (spCons (pOk pPivots fPivots (by decide) lsNil) (spCons (pOk pCounts fCounts (by decide) lsNil) (spCons (pOk pMerge fMerge (by decide) lsNil) (spCons (pOk pLevel fLevel (by decide) lsNil) (spCons (pOk pSorted fSorted (by decide) lsNil) (spCons (pOk pSkew fSkew (by decide) lsNil) (spCons (pOk pPlace33 fPlace33 (by decide) lsNil) (spCons (pOk pBetween fBetween (by decide) lsNil) spNil)))))))) (by kernel_rfl) Try.func4 (by kernel_rfl) (by decide) fun xs hg hp => ?_
  obtain ⟨⟩ := xs
  show vfun tab _ k4 Try.f4 [] [] _
  refine Ev.out ?_
  repeat' (first | ((with_reducible refine Ev.mk ?_); conv => whnf) | (with_reducible refine And.intro ?_ ?_) | (intro h; first | exact absurd h (by decide +kernel) | skip))
  all_goals first
    | exact Leaf.mk trivial
    | exact leafDraw (by kernel_rfl)
    | exact Leaf.mk rfl
    | exact Leaf.mk (by decide +kernel)
    | (refine Leaf.mk (show (_ : Nat) ≤ 100000 from ?_); decide +kernel)
    | (refine Leaf.mk (show (_ : Nat) ≤ 100000 ∧ (_ : Nat) ≤ 100000 from ?_); decide +kernel)
    | (refine Leaf.mk (show (_ : Nat) ≤ 1000 ∧ (_ : Nat) ≤ 1000 from ?_); decide +kernel)
    | (refine Leaf.mk (show bdK _ ∧ (_ : Nat) ≤ 100000 from ?_); unfold bdK; decide +kernel)
    | exact absurd ‹_ = true› (by decide +kernel)
    | (trace_state; sorry)
end Go.Proofs.Ytbmnhcffmgicnaa
