import Derived.Test.YtiklpaemkeadjaaB2


set_option linter.unusedVariables false
set_option linter.unusedSimpArgs false
namespace Go.Proofs.Ytiklpaemkeadjaa
open Go.Eng
def sSign : PSpec := ⟨[.d .bool, .d .bool], [⟨false, [.d (.int .i64)]⟩], fun _ => True, fun x => ((if x.1 then -1 else if x.2.1 then 1 else 0, ()), ())⟩
theorem fSign : FnOk Try.prog 48 := ⟨_, Try.func48, by decide, rfl⟩
theorem pSign : PSound Try.prog 48 sSign := by
  refine psound (T := tab) (S := (spOf [])) (keep := k48) (by kernel_rfl) tabOk spNil (by kernel_rfl) Try.func48 (by kernel_rfl) (by decide) fun xs hg hp => ?_
  obtain ⟨a, b, ⟨⟩⟩ := xs
  change Bool at a
  change Bool at b
  clear hp hg
  show vfun tab _ k48 Try.f48 [.b a, .b b] [] _
  refine Ev.out ?_
  repeat' (first | ((with_reducible refine Ev.mk ?_); conv => whnf) | (with_reducible refine And.intro ?_ ?_) | (intro h))
  all_goals (subst_vars; exact Leaf.mk rfl)
def sBCloneO : PSpec := ⟨[.d BT], [⟨false, [.o 5 (.int .u8)]⟩], fun x => x.1.length ≤ 1000000, fun x => ((x.1, ()), ())⟩
theorem fBCloneO : FnOk Try.prog 74 := ⟨_, Try.func74, by decide, rfl⟩
theorem pBCloneO : PSound Try.prog 74 sBCloneO := by
  refine psound (T := tab) (S := (spOf [])) (keep := k74) (by kernel_rfl) tabOk spNil (by kernel_rfl) Try.func74 (by kernel_rfl) (by decide) fun xs hg hp => ?_
  obtain ⟨xs, ⟨⟩⟩ := xs
  obtain ⟨⟨hl, -⟩, -⟩ := hg
  change List Int at xs
  clear hl
  change xs.length ≤ 1000000 at hp
  show vfun tab _ k74 Try.f74 [.sl (.int .u8) xs] [] _
  refine Ev.out ?_
  repeat' (first | ((with_reducible refine Ev.mk ?_); conv => whnf) | (with_reducible refine And.intro ?_ ?_) | (intro h))
  all_goals (try simp only [decide_eq_true_eq, decide_eq_false_iff_not, beq_iff_eq, bne_iff_ne, beq_eq_false_iff_ne, bne_eq_false_iff_eq, Int.toNat_natCast, ge_iff_le, gt_iff_lt, Bool.not_eq_true', Bool.not_eq_false', Int.not_lt, Int.not_le, ne_eq] at *)
  all_goals (try dsimp only [Ty.den, Ty.dflt, BT] at *)
  all_goals (try simp only [eq4, ne4, eq3, ne3, eq2, ne2, Prod.eta, List.length_cons, List.length_nil, List.length_append, Nat.zero_add] at *)
  all_goals (try simp (disch := omega) only [wrap64] at *)
  all_goals try first | exact leafDraw (by kernel_rfl) | exact Leaf.mk trivial | (refine Leaf.mk ?_; omega) | (refine Leaf.mk ?_; unfold maxLen; omega)
  · refine Leaf.mk (ret1 (show ([] : List Int) = xs from ?_))
    exact (List.eq_nil_of_length_eq_zero h).symm
  · exact Leaf.mk (ret1 rfl)
def behN (xs : List Int) : Nat → Nat
  | 0 => 0
  | n + 1 => if xs.getD n 0 = 255 then behN xs n else n + 1
def behL (xs : List Int) : List Int × Bool := match behN xs xs.length with
  | 0 => ([], false)
  | n + 1 => (xs.take n ++ [xs.getD n 0 + 1], true)
theorem take_set (xs : List Int) {m : Nat} (h : m < xs.length) (v : Int) : (xs.take (m + 1)).set m v = xs.take m ++ [v] := by
  rw [List.take_succ_eq_append_getElem h, List.set_append_right _ _ (by simp; omega)]
  simp [List.length_take, Nat.min_eq_left (Nat.le_of_lt h)]
theorem getD_take (xs : List Int) {m n : Nat} (h : m < n) : (xs.take n).getD m 0 = xs.getD m 0 := by
  simp only [List.getD_eq_getElem?_getD, List.getElem?_take, if_pos h]
def sBehind : PSpec := ⟨[.d BT], [⟨false, [.d BT]⟩, ⟨false, [.d .bool]⟩], fun x => x.1.length ≤ 100000, fun x => (((behL x.1).1, ()), ((behL x.1).2, ()), ())⟩
theorem fBehind : FnOk Try.prog 44 := ⟨_, Try.func44, by decide, rfl⟩
theorem pBehind : PSound Try.prog 44 sBehind := by
  refine psound (T := tab) (S := (spOf [(74, sBCloneO.spec (lsOf []))])) (keep := k44) (by kernel_rfl) tabOk (spCons (pOk pBCloneO fBCloneO (by decide) lsNil) spNil) (by kernel_rfl) Try.func44 (by kernel_rfl) (by decide) fun xs hg hp => ?_
  obtain ⟨xs, ⟨⟩⟩ := xs
  obtain ⟨⟨hl, hx⟩, -⟩ := hg
  change List Int at xs
  clear hl
  change xs.length ≤ 100000 at hp
  change ∀ x ∈ xs, Eng.Good (.int .u8) x at hx
  show vfun tab _ k44 Try.f44 [.sl (.int .u8) xs] [] _
  refine Ev.out ?_
  repeat' (first | ((with_reducible refine Ev.mk ?_); conv => whnf) | (with_reducible refine And.intro ?_ ?_) | (intro h))
  all_goals (try simp only [decide_eq_true_eq, decide_eq_false_iff_not, beq_iff_eq, bne_iff_ne, beq_eq_false_iff_ne, bne_eq_false_iff_eq, Int.toNat_natCast, ge_iff_le, gt_iff_lt, Bool.not_eq_true', Bool.not_eq_false', Int.not_lt, Int.not_le, ne_eq] at *)
  all_goals (try dsimp only [Ty.den, Ty.dflt, BT, sBCloneO] at *)
  all_goals (try simp only [eq4, ne4, eq3, ne3, eq2, ne2, Prod.eta, List.length_cons, List.length_nil, List.length_append, Nat.zero_add] at *)
  all_goals (try simp (disch := omega) only [wrap64] at *)
  all_goals try first | exact leafDraw (by kernel_rfl) | exact Leaf.mk trivial | (refine Leaf.mk ?_; omega) | (refine Leaf.mk ?_; unfold maxLen; omega)
  refine LoopVC.on (fun _ => []) (fun n : Nat => [(0, .arr 5 (.int .u8) (xs.take n))]) (fun n => n ≤ xs.length ∧ behN xs xs.length = behN xs n) (fun n => n) xs.length ?_ ⟨Nat.le_refl _, rfl⟩ ?_
  · rw [List.take_length]; rfl
  intro n ⟨hn, hb⟩
  have hln : (xs.take n).length = n := by rw [List.length_take]; omega
  repeat' (first | ((with_reducible refine Ev.mk ?_); conv => whnf) | (with_reducible refine And.intro ?_ ?_) | (intro h))
  all_goals (try simp only [decide_eq_true_eq, decide_eq_false_iff_not, beq_iff_eq, bne_iff_ne, beq_eq_false_iff_ne, bne_eq_false_iff_eq, Int.toNat_natCast, ge_iff_le, gt_iff_lt, Bool.not_eq_true', Bool.not_eq_false', Int.not_lt, Int.not_le, ne_eq] at *)
  all_goals (try dsimp only [Ty.den, Ty.dflt, BT] at *)
  all_goals (try simp only [eq4, ne4, eq3, ne3, eq2, ne2, Prod.eta, List.length_cons, List.length_nil, List.length_append, Nat.zero_add] at *)
  all_goals (try simp (disch := omega) only [wrap64] at *)
  all_goals (try simp only [hln] at *)
  all_goals try first | exact leafDraw (by kernel_rfl) | exact Leaf.mk trivial | (refine Leaf.mk ?_; omega) | (refine Leaf.mk ?_; unfold maxLen; omega)
  · obtain ⟨m, rfl⟩ : ∃ m, n = m + 1 := ⟨n - 1, by omega⟩
    have e : (((m + 1 : Nat) : Int) - 1).toNat = m := by omega
    rw [e, getD_take xs (by omega)] at h
    refine Leaf.mk ⟨m, ?_, ⟨by omega, ?_⟩, by omega⟩
    · rw [e, List.take_take, show min m (m + 1) = m by omega]; rfl
    · rw [hb, behN, if_pos h]
  · obtain ⟨m, rfl⟩ : ∃ m, n = m + 1 := ⟨n - 1, by omega⟩
    have e : (((m + 1 : Nat) : Int) - 1).toNat = m := by omega
    rw [e, getD_take xs (by omega)] at h
    have hm := byte_at hx (i := m) (by omega)
    rw [behN, if_neg h] at hb
    have hB : behL xs = (xs.take m ++ [xs.getD m 0 + 1], true) := by unfold behL; rw [hb]
    rw [e, getD_take xs (by omega), take_set xs (by omega), wrapU8, show (xs.getD m 0 + 1) % 256 = xs.getD m 0 + 1 by omega]
    refine Leaf.mk (ret2 ?_ ?_)
    · show _ = (behL xs).1
      rw [hB]
    · show _ = (behL xs).2
      rw [hB]
  · obtain rfl : n = 0 := by omega
    have hB : behL xs = ([], false) := by unfold behL; rw [hb]; rfl
    refine Leaf.mk (ret2 ?_ ?_)
    · show _ = (behL xs).1
      rw [hB]
    · show _ = (behL xs).2
      rw [hB]
def sBehindR : PSpec := sBehind
theorem fBehindR : FnOk Try.prog 45 := ⟨_, Try.func45, by decide, rfl⟩
theorem pBehindR : PSound Try.prog 45 sBehindR := by
  refine psound (T := tab) (S := (spOf [])) (keep := k45) (by kernel_rfl) tabOk spNil (by kernel_rfl) Try.func45 (by kernel_rfl) (by decide) fun xs hg hp => ?_
  obtain ⟨xs, ⟨⟩⟩ := xs
  obtain ⟨⟨hl, hx⟩, -⟩ := hg
  change List Int at xs
  clear hl
  change xs.length ≤ 100000 at hp
  change ∀ x ∈ xs, Eng.Good (.int .u8) x at hx
  show vfun tab _ k45 Try.f45 [.sl (.int .u8) xs] [] _
  refine Ev.out ?_
  repeat' (first | ((with_reducible refine Ev.mk ?_); conv => whnf) | (with_reducible refine And.intro ?_ ?_) | (intro h))
  all_goals (try simp only [decide_eq_true_eq, decide_eq_false_iff_not, beq_iff_eq, bne_iff_ne, beq_eq_false_iff_ne, bne_eq_false_iff_eq, Int.toNat_natCast, ge_iff_le, gt_iff_lt, Bool.not_eq_true', Bool.not_eq_false', Int.not_lt, Int.not_le, ne_eq] at *)
  all_goals (try dsimp only [Ty.den, Ty.dflt, BT] at *)
  all_goals (try simp only [eq4, ne4, eq3, ne3, eq2, ne2, Prod.eta, List.length_cons, List.length_nil, List.length_append, Nat.zero_add] at *)
  all_goals (try simp (disch := omega) only [wrap64] at *)
  all_goals try first | exact leafDraw (by kernel_rfl) | exact Leaf.mk trivial | (refine Leaf.mk ?_; omega) | (refine Leaf.mk ?_; unfold maxLen; omega)
  refine LoopVC.on (fun n : Nat => [(4, .i .i64 ((n : Int) - 1))]) (fun _ => []) (fun n => n ≤ xs.length ∧ behN xs xs.length = behN xs n) (fun n => n) xs.length rfl ⟨Nat.le_refl _, rfl⟩ ?_
  intro n ⟨hn, hb⟩
  repeat' (first | ((with_reducible refine Ev.mk ?_); conv => whnf) | (with_reducible refine And.intro ?_ ?_) | (intro h))
  all_goals (try simp only [decide_eq_true_eq, decide_eq_false_iff_not, beq_iff_eq, bne_iff_ne, beq_eq_false_iff_ne, bne_eq_false_iff_eq, Int.toNat_natCast, ge_iff_le, gt_iff_lt, Bool.not_eq_true', Bool.not_eq_false', Int.not_lt, Int.not_le, ne_eq] at *)
  all_goals (try dsimp only [Ty.den, Ty.dflt, BT] at *)
  all_goals (try simp only [eq4, ne4, eq3, ne3, eq2, ne2, Prod.eta, List.length_cons, List.length_nil, List.length_append, Nat.zero_add] at *)
  all_goals (try simp (disch := omega) only [wrap64] at *)
  all_goals (try simp only [Int.reduceToNat, List.drop_zero, List.nil_append] at *)
  all_goals (try simp only [List.length_take] at *)
  all_goals try first | exact leafDraw (by kernel_rfl) | exact Leaf.mk trivial | (refine Leaf.mk ?_; omega) | (refine Leaf.mk ?_; unfold maxLen; omega)
  · obtain ⟨m, rfl⟩ : ∃ m, n = m + 1 := ⟨n - 1, by omega⟩
    have e : (((m + 1 : Nat) : Int) - 1).toNat = m := by omega
    rw [e] at h
    have hm := byte_at hx (i := m) (by omega)
    rw [behN, if_neg h] at hb
    have hB : behL xs = (xs.take m ++ [xs.getD m 0 + 1], true) := by unfold behL; rw [hb]
    rw [e, wrapU8, show (xs.getD m 0 + 1) % 256 = xs.getD m 0 + 1 by omega]
    refine Leaf.mk (ret2 ?_ ?_)
    · show _ = (behL xs).1
      rw [hB]; try rfl
    · show _ = (behL xs).2
      rw [hB]
  · obtain ⟨m, rfl⟩ : ∃ m, n = m + 1 := ⟨n - 1, by omega⟩
    have e : (((m + 1 : Nat) : Int) - 1).toNat = m := by omega
    rw [e] at h
    refine Leaf.mk ⟨m, ?_, ⟨by omega, ?_⟩, by omega⟩
    · rw [show ((m + 1 : Nat) : Int) - 1 - 1 = (m : Int) - 1 by omega]; rfl
    · rw [hb, behN, if_pos h]
  · obtain rfl : n = 0 := by omega
    have hB : behL xs = ([], false) := by unfold behL; rw [hb]; rfl
    refine Leaf.mk (ret2 ?_ ?_)
    · show _ = (behL xs).1
      rw [hB]
    · show _ = (behL xs).2
      rw [hB]
def cmpL : List Int → List Int → Int
  | [], [] => 0
  | [], _ :: _ => -1
  | _ :: _, [] => 1
  | x :: r, y :: t => if x < y then -1 else if y < x then 1 else cmpL r t
def sCompareR : PSpec := ⟨[.d BT, .d BT], [⟨false, [.d (.int .i64)]⟩], fun _ => True, fun x => ((cmpL x.1 x.2.1, ()), ())⟩
theorem fCompareR : FnOk Try.prog 47 := ⟨_, Try.func47, by decide, rfl⟩
theorem pCompareR : PSound Try.prog 47 sCompareR := by
  refine psound (T := tab) (S := (spOf [])) (keep := k47) (by kernel_rfl) tabOk spNil (by kernel_rfl) Try.func47 (by kernel_rfl) (by decide) fun xs hg hp => ?_
  obtain ⟨a, b, ⟨⟩⟩ := xs
  obtain ⟨⟨hl, hx⟩, ⟨hl', hy⟩, -⟩ := hg
  change List Int at a
  change List Int at b
  have hl := len63 hl
  have hl' := len63 hl'
  change a.length ≤ _ at hl
  change b.length ≤ _ at hl'
  change ∀ x ∈ a, Eng.Good (.int .u8) x at hx
  change ∀ x ∈ b, Eng.Good (.int .u8) x at hy
  clear hp
  show vfun tab _ k47 Try.f47 [.sl (.int .u8) a, .sl (.int .u8) b] [] _
  refine Ev.out ?_
  repeat' (first | ((with_reducible refine Ev.mk ?_); conv => whnf) | (with_reducible refine And.intro ?_ ?_) | (intro h))
  all_goals (try simp only [decide_eq_true_eq, decide_eq_false_iff_not, beq_iff_eq, bne_iff_ne, beq_eq_false_iff_ne, bne_eq_false_iff_eq, Int.toNat_natCast, ge_iff_le, gt_iff_lt, Bool.not_eq_true', Bool.not_eq_false', Int.not_lt, Int.not_le, ne_eq] at *)
  all_goals (try dsimp only [Ty.den, Ty.dflt, BT] at *)
  all_goals (try simp only [eq4, ne4, eq3, ne3, eq2, ne2, Prod.eta, List.length_cons, List.length_nil, List.length_append, Nat.zero_add] at *)
  all_goals (try simp (disch := omega) only [wrap64] at *)
  all_goals try first | exact leafDraw (by kernel_rfl) | exact Leaf.mk trivial | (refine Leaf.mk ?_; omega) | (refine Leaf.mk ?_; unfold maxLen; omega)
  refine LoopVC.on (fun n : Nat => [(5, .i .i64 n)]) (fun _ => []) (fun n => n ≤ a.length ∧ n ≤ b.length ∧ cmpL a b = cmpL (a.drop n) (b.drop n)) (fun n => a.length - n) 0 rfl ⟨by omega, by omega, rfl⟩ ?_
  intro n ⟨hn, hm, hb⟩
  repeat' (first | ((with_reducible refine Ev.mk ?_); conv => whnf) | (with_reducible refine And.intro ?_ ?_) | (intro h))
  all_goals (try simp only [decide_eq_true_eq, decide_eq_false_iff_not, beq_iff_eq, bne_iff_ne, beq_eq_false_iff_ne, bne_eq_false_iff_eq, Int.toNat_natCast, ge_iff_le, gt_iff_lt, Bool.not_eq_true', Bool.not_eq_false', Int.not_lt, Int.not_le, ne_eq] at *)
  all_goals (try dsimp only [Ty.den, Ty.dflt, BT] at *)
  all_goals (try simp only [eq4, ne4, eq3, ne3, eq2, ne2, Prod.eta, List.length_cons, List.length_nil, List.length_append, Nat.zero_add] at *)
  all_goals (try simp (disch := omega) only [wrap64] at *)
  all_goals try first | exact leafDraw (by kernel_rfl) | exact Leaf.mk trivial | (refine Leaf.mk ?_; omega) | (refine Leaf.mk ?_; unfold maxLen; omega)
  all_goals (try rw [drop_at 0 (show n < a.length by omega), drop_at 0 (show n < b.length by omega), cmpL] at hb)
  all_goals (try rw [List.drop_eq_nil_of_le (show a.length ≤ n by omega)] at hb)
  all_goals (try rw [List.drop_eq_nil_of_le (show b.length ≤ n by omega)] at hb)
  all_goals (try rw [drop_at 0 (show n < a.length by omega)] at hb)
  all_goals (try rw [drop_at 0 (show n < b.length by omega)] at hb)
  all_goals first
    | (refine Leaf.mk (ret1 (show _ = cmpL a b from ?_)); rw [hb]; first | (rw [if_pos (by omega)]) | (rw [if_neg (by omega), if_pos (by omega)]) | rfl)
    | (rw [if_neg (by omega), if_neg (by omega)] at hb
       exact Leaf.mk ⟨n + 1, rfl, ⟨by omega, by omega, hb⟩, by omega⟩)
end Go.Proofs.Ytiklpaemkeadjaa
