import Derived.Test.YtoedpnniaikfbaaA3
import Derived.Test.YtoedpnniaikfbaaEng4



set_option linter.unusedVariables false
set_option linter.unusedSimpArgs false
namespace Go.Proofs.Ytoedpnniaikfbaa
open Go.Eng
def sDeleteV : OSpec := ⟨93, VerT, [.d (.int .i64), .d (.int .i64)], fun xs y => 0 ≤ y.1 ∧ y.1 ≤ y.2.1 ∧ y.2.1 ≤ (xs.length : Int) ∧ xs.length ≤ 1000000, fun xs y => xs.take y.1.toNat ++ xs.drop y.2.1.toNat⟩
theorem fDeleteV : FnOk Try.prog 115 := ⟨_, Try.func115, by decide, rfl⟩
theorem pDeleteV : SpecOk Try.prog 115 sDeleteV.spec := by
  refine oOk (T := tab) (S := (spOf [])) (keep := k115) (by kernel_rfl) tabOk spNil (by kernel_rfl) Try.func115 (by kernel_rfl) (by decide) (by decide) fun xs ys k hg hgt hmax hp => ?_
  obtain ⟨i, j, ⟨⟩⟩ := ys
  change List Ver at xs
  change Int at i
  change Int at j
  change 0 ≤ i ∧ i ≤ j ∧ j ≤ (xs.length : Int) ∧ xs.length ≤ 1000000 at hp
  clear hg hgt
  obtain ⟨i, rfl⟩ := Int.eq_ofNat_of_zero_le hp.1
  obtain ⟨j, rfl⟩ := Int.eq_ofNat_of_zero_le (show 0 ≤ j by omega)
  show vfun tab _ k115 Try.f115 [.vw 0 VerT 0 xs.length true, .i .i64 i, .i .i64 j] [(0, .raw 93 VerT (xs.map some ++ List.replicate k (none : Option (Ty.den VerT))))] _
  refine Ev.out ?_
  repeat' (first | ((with_reducible refine Ev.mk ?_); conv => whnf) | (with_reducible refine And.intro ?_ ?_) | (intro h))
  all_goals (try simp only [decide_eq_true_eq, decide_eq_false_iff_not, beq_iff_eq, bne_iff_ne, beq_eq_false_iff_ne, bne_eq_false_iff_eq, Int.toNat_natCast, ge_iff_le, gt_iff_lt, Bool.not_eq_true', Bool.not_eq_false', Int.not_lt, Int.not_le, ne_eq] at *)
  all_goals (try dsimp only [Ty.den, Ty.dflt, VerT] at *)
  all_goals (try simp only [eq4, ne4, eq3, ne3, eq2, ne2, Prod.eta, List.length_cons, List.length_nil, List.length_append, Nat.zero_add] at *)
  all_goals (try simp (disch := omega) only [wrap64] at *)
  all_goals (try simp only [Int.sub_zero, Int.toNat_natCast, Int.toNat_sub, Int.toNat_zero, Nat.zero_add, toNat_add', toNat_addsub, toNat_subadd, List.length_map, List.length_append, List.length_replicate, List.length_take, List.length_drop] at *)
  all_goals first | omega | skip
  all_goals try first | exact leafDraw (by kernel_rfl) | exact Leaf.mk trivial | (refine Leaf.mk ?_; omega) | (refine Leaf.mk ?_; unfold maxLen; omega)
  all_goals first
    | (refine Leaf.mk ?_; unfold maxLen at *; omega)
    | skip
  · refine Leaf.mk (readO_vw.trans (congrArg some (?_ : _ = (xs.take i ++ xs.drop j).map some)))
    obtain rfl : i = j := by omega
    change ((xs.map some ++ List.replicate k none).take _) = _
    rw [raw_take (by omega)]
    simp
  · refine Leaf.mk (?_ : (List.take _ (List.drop _ (xs.map some ++ List.replicate k none))).all Option.isSome = true); rw [raw_cut (by omega)]; exact raw_all
  · refine Leaf.mk (readO_vw.trans (congrArg some (?_ : _ = (xs.take i ++ xs.drop j).map some)))
    change List.take (α := Option Ver) _ _ = _
    rw [Nat.min_eq_left (by omega), raw_cut (by omega), raw_take (by omega), map_some_getD]
    rw [show (xs.drop j).take (xs.length - j) = xs.drop j from List.take_of_length_le (by simp), ← List.map_append]
    rw [List.append_assoc (List.take _ _), List.take_append_of_le_length, List.take_take, Nat.min_self, List.take_append_of_le_length, List.take_of_length_le]
    all_goals simp
    all_goals omega
theorem pOverlapsV : XOk Try.prog 153 xOverlaps := xOverlaps_ok tabOk Try.func153 (by kernel_rfl) (by kernel_rfl) (by kernel_rfl) (by kernel_rfl) (t := 22) rfl rfl (by rfl)
def sInsertV : OSpec := ⟨93, VerT, [.d (.int .i64), .o 93 VerT], fun xs y => 0 ≤ y.1 ∧ y.1 ≤ (xs.length : Int) ∧ xs.length + List.length y.2.1 ≤ 1000000, fun xs y => xs.take y.1.toNat ++ (y.2.1 ++ xs.drop y.1.toNat)⟩
theorem fInsertV : FnOk Try.prog 116 := ⟨_, Try.func116, by decide, rfl⟩
theorem pInsertV : SpecOk Try.prog 116 sInsertV.spec := by
  refine oOk (T := tab) (S := (spOf [(153, xOverlaps)])) (keep := k116) (by kernel_rfl) tabOk (spCons (.inr pOverlapsV) spNil) (by kernel_rfl) Try.func116 (by kernel_rfl) (by decide) (by decide) fun xs ys k hg hgt hmax hp => ?_
  obtain ⟨i, vs, ⟨⟩⟩ := ys
  change List Ver at xs
  change List Ver at vs
  change Int at i
  change 0 ≤ i ∧ i ≤ (xs.length : Int) ∧ xs.length + vs.length ≤ 1000000 at hp
  clear hg hgt
  obtain ⟨i, rfl⟩ := Int.eq_ofNat_of_zero_le hp.1
  show vfun tab _ k116 Try.f116 [.vw 0 VerT 0 xs.length true, .i .i64 i, .own 1] [(0, .raw 93 VerT (xs.map some ++ List.replicate k (none : Option (Ty.den VerT)))), (1, .arr 93 VerT vs)] _
  refine Ev.out ?_
  repeat' (first | ((with_reducible refine Ev.mk ?_); conv => whnf) | (with_reducible refine And.intro ?_ ?_) | (intro h))
  all_goals (try simp only [decide_eq_true_eq, decide_eq_false_iff_not, beq_iff_eq, bne_iff_ne, beq_eq_false_iff_ne, bne_eq_false_iff_eq, Int.toNat_natCast, ge_iff_le, gt_iff_lt, Bool.not_eq_true', Bool.not_eq_false', Int.not_lt, Int.not_le, ne_eq] at *)
  all_goals (try dsimp only [Ty.den, Ty.dflt, VerT] at *)
  all_goals (try simp only [eq4, ne4, eq3, ne3, eq2, ne2, Prod.eta, List.length_cons, List.length_nil, List.length_append, Nat.zero_add] at *)
  all_goals (try simp (disch := omega) only [wrap64] at *)
  all_goals (try simp only [Int.sub_zero, Int.toNat_natCast, Int.toNat_sub, Int.toNat_zero, Nat.zero_add, toNat_add', toNat_addsub, toNat_subadd, List.length_map, List.length_append, List.length_replicate, List.length_take, List.length_drop] at *)
  all_goals first | omega | skip
  all_goals try first | exact leafDraw (by kernel_rfl) | exact Leaf.mk trivial | (refine Leaf.mk ?_; omega) | (refine Leaf.mk ?_; unfold maxLen; omega)
  all_goals first
    | (refine Leaf.mk ?_; unfold maxLen at *; omega)
    | skip
  · refine Leaf.mk (readO_vw.trans (congrArg some (?_ : _ = (xs.take i ++ (vs ++ xs.drop i)).map some)))
    obtain rfl : vs = [] := List.eq_nil_of_length_eq_zero (by omega)
    change ((xs.map some ++ List.replicate k none).take _) = _
    rw [raw_take (by omega)]
    simp
  · refine Leaf.mk (readO_vw.trans (congrArg some (?_ : _ = (xs.take i ++ (vs ++ xs.drop i)).map some)))
    obtain rfl : i = xs.length := by omega
    change (List.take (α := Option Ver) _ _) = _
    rw [raw_take (by omega), tk3 (by simp)]
    simp
  · refine Leaf.mk (readO_vw.trans (congrArg some (?_ : _ = (xs.take i ++ (vs ++ xs.drop i)).map some)))
    obtain rfl : i = xs.length := by omega
    change (List.take (α := Option Ver) _ _) = _
    rw [raw_take (by omega), tk3 (by simp)]
    simp
  · refine Leaf.mk (?_ : (List.take _ (List.drop _ (xs.map some ++ List.replicate k none))).all Option.isSome = true); rw [raw_cut (by omega)]; exact raw_all
  · exact Leaf.mk (readO_vw.trans (congrArg some (ins_new (by omega) (by omega) (by omega))))
  · refine Leaf.mk (?_ : (List.take _ (List.drop _ (xs.map some ++ List.replicate k none))).all Option.isSome = true); rw [raw_cut (by omega)]; exact raw_all
  · exact Leaf.mk (readO_vw.trans (congrArg some (ins_in (by omega) (by omega))))
end Go.Proofs.Ytoedpnniaikfbaa
