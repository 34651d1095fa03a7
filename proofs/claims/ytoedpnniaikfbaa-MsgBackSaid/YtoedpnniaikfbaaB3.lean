import Derived.Test.YtoedpnniaikfbaaB2



set_option linter.unusedVariables false
set_option linter.unusedSimpArgs false
namespace Go.Proofs.Ytoedpnniaikfbaa
open Go.Eng
def sSign : PSpec := ⟨[.d .bool, .d .bool], [⟨false, [.d (.int .i64)]⟩], fun _ => True, fun x => ((if x.1 then -1 else if x.2.1 then 1 else 0, ()), ())⟩
def sBCloneO : PSpec := ⟨[.d BT], [⟨false, [.o 5 (.int .u8)]⟩], fun x => x.1.length ≤ 1000000, fun x => ((x.1, ()), ())⟩
theorem fBCloneO : FnOk Try.prog 128 := ⟨_, Try.func128, by decide, rfl⟩
theorem pBCloneO : PSound Try.prog 128 sBCloneO := by
  refine psound (T := tab) (S := (spOf [])) (keep := k128) (by kernel_rfl) tabOk spNil (by kernel_rfl) Try.func128 (by kernel_rfl) (by decide) fun xs hg hp => ?_
  obtain ⟨xs, ⟨⟩⟩ := xs
  obtain ⟨⟨hl, -⟩, -⟩ := hg
  change List Int at xs
  clear hl
  change xs.length ≤ 1000000 at hp
  show vfun tab _ k128 Try.f128 [.sl (.int .u8) xs] [] _
  refine Ev.out ?_
  repeat' (first | ((with_reducible refine Ev.mk ?_); conv => whnf) | (with_reducible refine And.intro ?_ ?_) | (intro h))
  all_goals (try simp only [decide_eq_true_eq, decide_eq_false_iff_not, beq_iff_eq, bne_iff_ne, beq_eq_false_iff_ne, bne_eq_false_iff_eq, Int.toNat_natCast, ge_iff_le, gt_iff_lt, Bool.not_eq_true', Bool.not_eq_false', Int.not_lt, Int.not_le, ne_eq] at *)
  all_goals (try dsimp only [Ty.den, Ty.dflt, BT] at *)
  all_goals (try simp only [eq4, ne4, eq3, ne3, eq2, ne2, Prod.eta, List.length_cons, List.length_nil, List.length_append, Nat.zero_add] at *)
  all_goals (try simp (disch := omega) only [wrap64] at *)
  all_goals try first | exact leafDraw (by kernel_rfl) | exact Leaf.mk trivial | (refine Leaf.mk ?_; omega) | (refine Leaf.mk ?_; unfold maxLen; omega)
  · refine Leaf.mk (ret1 (show ([] : List Int) = xs from ?_))
    exact (List.eq_nil_of_length_eq_zero h).symm
  · exact Leaf.mk (ret1 rfl)
def behN (xs : List Int) : Nat → Nat
  | 0 => 0
  | n + 1 => if xs.getD n 0 = 255 then behN xs n else n + 1
def behL (xs : List Int) : List Int × Bool := match behN xs xs.length with
  | 0 => ([], false)
  | n + 1 => (xs.take n ++ [xs.getD n 0 + 1], true)
theorem take_set (xs : List Int) {m : Nat} (h : m < xs.length) (v : Int) : (xs.take (m + 1)).set m v = xs.take m ++ [v] := by
  rw [List.take_succ_eq_append_getElem h, List.set_append_right _ _ (by simp; omega)]
  simp [List.length_take, Nat.min_eq_left (Nat.le_of_lt h)]
theorem getD_take (xs : List Int) {m n : Nat} (h : m < n) : (xs.take n).getD m 0 = xs.getD m 0 := by
  simp only [List.getD_eq_getElem?_getD, List.getElem?_take, if_pos h]
def sBehind : PSpec := ⟨[.d BT], [⟨false, [.d BT]⟩, ⟨false, [.d .bool]⟩], fun x => x.1.length ≤ 100000, fun x => (((behL x.1).1, ()), ((behL x.1).2, ()), ())⟩
def sBehindR : PSpec := sBehind
def cmpL : List Int → List Int → Int
  | [], [] => 0
  | [], _ :: _ => -1
  | _ :: _, [] => 1
  | x :: r, y :: t => if x < y then -1 else if y < x then 1 else cmpL r t
def sCompareR : PSpec := ⟨[.d BT, .d BT], [⟨false, [.d (.int .i64)]⟩], fun _ => True, fun x => ((cmpL x.1 x.2.1, ()), ())⟩
end Go.Proofs.Ytoedpnniaikfbaa
