import Derived.Test.YtcgfolhnoggjfaaTab
import Derived.Test.YtcgfolhnoggjfaaEng4
import Derived.Test.YtcgfolhnoggjfaaEng5

import Derived.Test.YtcgfolhnoggjfaaP1
import Derived.Test.YtcgfolhnoggjfaaLy



set_option linter.unusedVariables false
set_option linter.unusedSimpArgs false
set_option maxRecDepth 8000
set_option maxHeartbeats 4000000
namespace Go.Proofs.Ytcgfolhnoggjfaa
open Go.Eng
theorem fSort : FnOk Try.prog 49 := ⟨_, Try.func49, by decide, rfl⟩
noncomputable def iSort : Eng.Spec := sortSpec .str sortStr
theorem pSort : SpecOk Try.prog 49 iSort := sortStr_ok lays190 rfl
def sCompact : OSpec := ⟨9, .str, [], fun xs _ => xs.length ≤ 1000000, fun xs _ => compL (α := List UInt8) xs⟩
theorem fCompact : FnOk Try.prog 50 := ⟨_, Try.func50, by decide, rfl⟩
theorem pCompact : SpecOk Try.prog 50 sCompact.spec := by
  refine oOk (T := tab) (S := (spOf [])) (keep := k50) (by kernel_rfl) tabOk spNil (by kernel_rfl) Try.func50 (by kernel_rfl) (by decide) (by decide) fun xs ys k hg hgt hmax hp => ?_
  obtain ⟨⟩ := ys
  change List (List UInt8) at xs
  change xs.length ≤ 1000000 at hp
  clear hg hgt
  show vfun tab _ k50 Try.f50 [.vw 0 .str 0 xs.length true] [(0, .raw 9 .str (xs.map some ++ List.replicate k (none : Option (Ty.den .str))))] _
  refine Ev.out ?_
  repeat' (first | ((with_reducible refine Ev.mk ?_); conv => whnf) | (with_reducible refine And.intro ?_ ?_) | (intro h))
  all_goals (try simp only [decide_eq_true_eq, decide_eq_false_iff_not, beq_iff_eq, bne_iff_ne, beq_eq_false_iff_ne, bne_eq_false_iff_eq, Int.toNat_natCast, ge_iff_le, gt_iff_lt, Bool.not_eq_true', Bool.not_eq_false', Int.not_lt, Int.not_le, ne_eq] at *)
  all_goals (try dsimp only [Ty.den, Ty.dflt, .str] at *)
  all_goals (try simp only [eq4, ne4, eq3, ne3, eq2, ne2, Prod.eta, List.length_cons, List.length_nil, List.length_append, Nat.zero_add] at *)
  all_goals (try simp (disch := omega) only [wrap64] at *)
  all_goals (try simp only [Int.sub_zero, Int.toNat_natCast, Int.toNat_sub, Int.toNat_zero, Nat.zero_add, toNat_add', toNat_addsub, toNat_subadd, List.length_map, List.length_append, List.length_replicate, List.length_take, List.length_drop] at *)
  · refine Leaf.mk (readO_vw.trans (congrArg some (?_ : _ = (compL xs).map some)))
    rw [compL_short (by omega)]
    refine (raw_take (Nat.le_refl _)).trans ?_
    rw [take_all (Nat.le_refl _)]
  have hrg : ∀ i, i < xs.length → (xs.map some ++ List.replicate k none).getD i none = some (xs.getD i []) := fun i h => raw_getD [] h
  refine LoopVC.on (fun n : Nat => [(3, .i .i64 n)]) (fun _ => []) (fun n => 1 ≤ n ∧ n ≤ xs.length ∧ compL (xs.take n) = xs.take n) (fun n => xs.length - n) 1 rfl ⟨by omega, by omega, compL_short (by rw [List.length_take]; omega)⟩ ?_
  intro n ⟨hn1, hn, he⟩
  repeat' (first | ((with_reducible refine Ev.mk ?_); conv => whnf) | (with_reducible refine And.intro ?_ ?_) | (intro h))
  all_goals (try simp only [decide_eq_true_eq, decide_eq_false_iff_not, beq_iff_eq, bne_iff_ne, beq_eq_false_iff_ne, bne_eq_false_iff_eq, Int.toNat_natCast, ge_iff_le, gt_iff_lt, Bool.not_eq_true', Bool.not_eq_false', Int.not_lt, Int.not_le, ne_eq] at *)
  all_goals (try dsimp only [Ty.den, Ty.dflt, .str] at *)
  all_goals (try simp only [eq4, ne4, eq3, ne3, eq2, ne2, Prod.eta, List.length_cons, List.length_nil, List.length_append, Nat.zero_add] at *)
  all_goals (try simp (disch := omega) only [wrap64] at *)
  all_goals (try simp only [Int.sub_zero, Int.toNat_natCast, Int.toNat_sub, Int.toNat_zero, Nat.zero_add, toNat_add', toNat_addsub, toNat_subadd, List.length_map, List.length_append, List.length_replicate, List.length_take, List.length_drop] at *)
  all_goals try rw [show ((n : Int) - 1).toNat = n - 1 by omega] at *
  all_goals try rw [hrg n (by omega), hrg (n - 1) (by omega)] at *
  all_goals try rw [hrg n (by omega)] at *
  all_goals try rw [hrg (n - 1) (by omega)] at *
  all_goals try first | exact leafDraw (by kernel_rfl) | exact Leaf.mk trivial | (refine Leaf.mk ?_; omega) | (refine Leaf.mk ?_; unfold maxLen; omega)
  all_goals try simp only [Option.getD_some] at *
  all_goals try exact Leaf.mk rfl
  rotate_left
  · refine Leaf.mk ⟨n + 1, rfl, ⟨by omega, by omega, ?_⟩, by omega⟩
    rw [compL_ne [] hn1 (by omega) h, he, take_at [] (by omega)]
  · refine Leaf.mk (readO_vw.trans (congrArg some (?_ : _ = (compL xs).map some)))
    rw [take_all (by omega)] at he
    rw [he]
    refine (raw_take (Nat.le_refl _)).trans ?_
    rw [take_all (Nat.le_refl _)]
  refine LoopVC.on (fun a : Nat × Nat × List (Option (List UInt8)) => [(3, .i .i64 a.1), (5, .i .i64 ((a.2.1 - n : Nat) : Int))]) (fun a => [(0, .raw 9 .str a.2.2)]) (fun a => n + 1 ≤ a.2.1 ∧ CF xs k a.2.2 a.1 a.2.1) (fun a => xs.length - a.2.1) (n, n + 1, xs.map some ++ List.replicate k none) ?_ ⟨Nat.le_refl _, CF.first [] hn1 (by omega) he h⟩ ?_
  · show _ = _
    rw [show n + 1 - n = 1 by omega]; rfl
  intro ⟨i, j, zs⟩ ⟨hj, q⟩
  dsimp only at hj q ⊢
  have hlt := q.lt
  have hle := q.le
  have hzl := q.len
  have hg1 := fun h => q.get [] (m := j) (by omega) h
  have hg2 := fun h => q.get [] (m := j - 1) (Nat.le_refl _) h
  repeat' (first | ((with_reducible refine Ev.mk ?_); conv => whnf) | (with_reducible refine And.intro ?_ ?_) | (intro h))
  all_goals (try simp only [decide_eq_true_eq, decide_eq_false_iff_not, beq_iff_eq, bne_iff_ne, beq_eq_false_iff_ne, bne_eq_false_iff_eq, Int.toNat_natCast, ge_iff_le, gt_iff_lt, Bool.not_eq_true', Bool.not_eq_false', Int.not_lt, Int.not_le, ne_eq] at *)
  all_goals (try dsimp only [Ty.den, Ty.dflt, .str] at *)
  all_goals (try simp only [eq4, ne4, eq3, ne3, eq2, ne2, Prod.eta, List.length_cons, List.length_nil, List.length_append, Nat.zero_add] at *)
  all_goals (try simp (disch := omega) only [wrap64] at *)
  all_goals (try simp only [Int.sub_zero, Int.toNat_natCast, Int.toNat_sub, Int.toNat_zero, Nat.zero_add, toNat_add', toNat_addsub, toNat_subadd, List.length_map, List.length_append, List.length_replicate, List.length_take, List.length_drop] at *)
  all_goals try rw [show n + (j - n) = j by omega] at *
  all_goals try rw [show n + (((j - n : Nat) : Int) - 1).toNat = j - 1 by omega] at *
  all_goals try rw [hg1 (by omega)] at *
  all_goals try rw [hg2 (by omega)] at *
  all_goals try simp only [Option.getD_some, Option.isSome_some] at *
  all_goals try first | exact leafDraw (by kernel_rfl) | exact Leaf.mk trivial | (refine Leaf.mk ?_; omega) | (refine Leaf.mk ?_; unfold maxLen; omega)
  all_goals try first
    | exact Leaf.mk rfl
    | (refine Leaf.mk ⟨(i + 1, j + 1, zs.set i (some (xs.getD j []))), ?_, ⟨by dsimp only; omega, q.new [] (by omega) ‹¬ _›⟩, by dsimp only; omega⟩
       dsimp only
       rw [show j + 1 - n = (j - n) + 1 by omega]; rfl)
    | (refine Leaf.mk ⟨(i, j + 1, zs), ?_, ⟨by dsimp only; omega, q.same [] (by omega) h⟩, by dsimp only; omega⟩
       dsimp only
       rw [show j + 1 - n = (j - n) + 1 by omega]; rfl)
  obtain rfl : j = xs.length := by omega
  refine Leaf.mk (readO_vw.trans (congrArg some (?_ : _ = (compL xs).map some)))
  change List.take (α := Option (List UInt8)) _ _ = _
  rw [List.append_assoc, List.take_append_of_le_length (by rw [List.length_take]; omega), List.take_take, Nat.min_self]
  exact q.fin
end Go.Proofs.Ytcgfolhnoggjfaa
